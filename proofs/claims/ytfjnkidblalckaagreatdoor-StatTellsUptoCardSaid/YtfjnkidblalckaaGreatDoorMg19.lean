/- Parts: RecS, RefE, RefW. -/
import Derived.Test.YtfjnkidblalckaaGreatDoorMg05
import Derived.Test.YtfjnkidblalckaaGreatDoorMg07
import Derived.Test.YtfjnkidblalckaaGreatDoorMg11
import Derived.Test.YtfjnkidblalckaaGreatDoorMg06
import Derived.Test.YtfjnkidblalckaaGreatDoorMg18
import Derived.Test.YtfjnkidblalckaaGreatDoorMg08
/- Contracts: record.Find, record.Get, record.Set. -/
namespace Go.Proofs.YtfjnkidblalckaaGreatDoor
open Go Go.RowKit


theorem clone_prps_info : (Tryz.prog.info? 114).map (fun i => (i.zero, i.size, i.bytes)) = some (some (.agg #[.string .empty, .int .i64 0, .int .i64 0, .string .empty]), 4, 48) := by kernel_rfl
/-! ### The order of names -/
theorem less_cmp : ∀ (a b : List UInt8), Op.bytesLess a b = decide (Lib.compareBytes a b < 0)
  | [], [] => by simp [Op.bytesLess, Lib.compareBytes]
  | [], _ :: _ => by simp [Op.bytesLess, Lib.compareBytes]
  | _ :: _, [] => by simp [Op.bytesLess, Lib.compareBytes]
  | x :: a, y :: b => by
    rw [Op.bytesLess, Lib.compareBytes, less_cmp a b]
    by_cases h1 : x < y
    · simp [h1]
    · by_cases h2 : y < x
      · have : x ≠ y := fun e => by subst e; exact absurd h2 h1
        simp [h1, h2, this]
      · have e : x = y := by
          apply UInt8.toNat_inj.1
          simp [UInt8.lt_iff_toNat_lt] at h1 h2
          omega
        subst e
        simp [h1]
theorem ltS_cmp (a b : ByteArray) : ltS a b = decide (cmpS a b < 0) := by
  unfold ltS cmpS
  rw [less_cmp, ByteArray.toList_eq, ByteArray.toList_eq]
theorem prpC_mono (nm : ByteArray) : ∀ a b, prpLt a b = true → 0 ≤ prpC nm a → 0 ≤ prpC nm b := by
  intro a b h h1
  unfold prpLt at h
  rw [ltS_cmp] at h
  unfold prpC at h1 ⊢
  simp at h
  by_cases hb : cmpS b.name nm < 0
  · have := cmpS_trans h hb; omega
  · omega
theorem rec_ok {r : List Prp} (h : recE r = 0) : r.length ≤ 8 ∧ (∀ p ∈ r, prpE p = 0) ∧ chain prpLt r = true := by
  unfold recE at h
  by_cases h1 : 8 < r.length
  · rw [if_pos h1] at h; omega
  rw [if_neg h1] at h
  by_cases h2 : firstE prpE r = 0
  · rw [if_pos h2] at h
    cases hc : chain (fun a b : Prp => ltS a.name b.name) r with
    | true =>
      refine ⟨by omega, fun p hp => ?_, hc⟩
      have key : ∀ l : List Prp, firstE prpE l = 0 → ∀ p ∈ l, prpE p = 0 := by
        intro l
        induction l with
        | nil => intro _ p hp; simp at hp
        | cons a l ih =>
          intro h p hp
          rw [firstE] at h
          split at h
          · rename_i h0
            rcases List.mem_cons.1 hp with rfl | hp
            · exact h0
            · exact ih h p hp
          · rename_i h0; exact absurd h h0
      exact key r h2 p hp
    | false => rw [hc] at h; simp at h
  · rw [if_neg h2] at h; exact absurd h h2
/-! ### record.Get -/
theorem res3 {w w1 : World} {T : TypeId} {c0 c1 c2 : Value} (a b c : Value) (hB : Below w.heap.size w w1) (h : w1.heap[w.heap.size]? = some (.cells #[c0, c1, c2] T (0, 0))) :
    Below w.heap.size w (((w1.setCell ⟨w.heap.size, 0, none⟩ a).setCell ⟨w.heap.size, 1, none⟩ b).setCell ⟨w.heap.size, 2, none⟩ c) ∧
    (((w1.setCell ⟨w.heap.size, 0, none⟩ a).setCell ⟨w.heap.size, 1, none⟩ b).setCell ⟨w.heap.size, 2, none⟩ c).cell? ⟨w.heap.size, 0, none⟩ = some a ∧
    (((w1.setCell ⟨w.heap.size, 0, none⟩ a).setCell ⟨w.heap.size, 1, none⟩ b).setCell ⟨w.heap.size, 2, none⟩ c).cell? ⟨w.heap.size, 1, none⟩ = some b ∧
    (((w1.setCell ⟨w.heap.size, 0, none⟩ a).setCell ⟨w.heap.size, 1, none⟩ b).setCell ⟨w.heap.size, 2, none⟩ c).cell? ⟨w.heap.size, 2, none⟩ = some c := by
  have h3 := setCell_block (setCell_block (setCell_block h 0 a) 1 b) 2 c
  exact ⟨((hB.setCell (p := ⟨_, 0, none⟩) (Nat.le_refl _) _).setCell (p := ⟨_, 1, none⟩) (Nat.le_refl _) _).setCell (p := ⟨_, 2, none⟩) (Nat.le_refl _) _, block_cell h3 0, block_cell h3 1, block_cell h3 2⟩
def getE (r : List Prp) (nm : ByteArray) : Int := if recE r = 0 then (if rhas r nm then 0 else 5) else recE r
def noVal : Val := ⟨0, 0, .empty⟩
def getV (r : List Prp) (nm : ByteArray) : Val := if getE r nm = 0 then (match r[rpos r nm]? with | some p => p.v | none => noVal) else noVal
theorem rhas_some {r : List Prp} {nm : ByteArray} (h : rhas r nm = true) : ∃ p, r[rpos r nm]? = some p := by
  unfold rhas eqAt at h
  cases hd : r[rpos r nm]? with
  | none => rw [hd] at h; simp at h
  | some d => exact ⟨d, rfl⟩
end Go.Proofs.YtfjnkidblalckaaGreatDoor

/- Contract of the references: kinref1.Fields. -/
namespace Go.Proofs.YtfjnkidblalckaaGreatDoor
open Go Go.RowKit

theorem fldC_lt (f d : Fld) : ltS f.name d.name = decide (0 < fldC f.name d) := by
  rw [ltS_cmp]
  unfold fldC
  rw [cmpS_anti d.name f.name]
  congr 1
  apply propext
  omega
/-- Where all from t on are greater, and the one ahead of it is not. -/
theorem low_new {acc : List Fld} {f : Fld} {t : Nat} (hr : Rise acc) (ht : t ≤ acc.length) (hA : ∀ i d, t ≤ i → acc[i]? = some d → ltS f.name d.name = true) (hB : t = 0 ∨ ∃ d, acc[t - 1]? = some d ∧ fldC f.name d < 0) :
    lowI (fldC f.name) acc = t ∧ eqAt (fldC f.name) acc (lowI (fldC f.name) acc) = false := by
  have hle := lowI_le (fldC f.name) acc
  have e : lowI (fldC f.name) acc = t := by
    rcases Nat.lt_trichotomy (lowI (fldC f.name) acc) t with h | h | h
    · exfalso
      rcases hB with h0 | ⟨d, hd, hc⟩
      · omega
      · have := low_ge (rise_chain hr) (fldC_mono f.name) (show lowI (fldC f.name) acc ≤ t - 1 by omega) hd
        omega
    · exact h
    · exfalso
      have hl : t < acc.length := by omega
      have h1 := low_lt h (List.getElem?_eq_getElem hl)
      have h2 := hA t _ (Nat.le_refl _) (List.getElem?_eq_getElem hl)
      rw [fldC_lt] at h2
      simp at h2
      omega
  refine ⟨e, ?_⟩
  rw [e]
  unfold eqAt
  cases hd : acc[t]? with
  | none => rfl
  | some d =>
    have h2 := hA t d (Nat.le_refl _) hd
    rw [fldC_lt] at h2
    simp at h2 ⊢
    omega
theorem at_old {acc : List Fld} {f q : Fld} {t : Nat} (hr : Rise acc) (ht : acc[t]? = some q) (hq : q.name = f.name) :
    lowI (fldC f.name) acc = t ∧ eqAt (fldC f.name) acc (lowI (fldC f.name) acc) = true := by
  have hc : fldC f.name q = 0 := by unfold fldC; rw [hq]; exact cmpS_zero.2 rfl
  have hl := (List.getElem?_eq_some_iff.1 ht).1
  have e : lowI (fldC f.name) acc = t := by
    rcases Nat.lt_trichotomy (lowI (fldC f.name) acc) t with h | h | h
    · exfalso
      have h1 := low_ge (rise_chain hr) (fldC_mono f.name) (Nat.le_refl (lowI (fldC f.name) acc)) (List.getElem?_eq_getElem (l := acc) (i := lowI (fldC f.name) acc) (by omega))
      have h2 := List.pairwise_iff_getElem.1 hr _ t (by omega) hl h
      obtain ⟨_, e2⟩ := List.getElem?_eq_some_iff.1 ht
      rw [e2, hq] at h2
      have h3 : 0 ≤ cmpS (acc[lowI (fldC f.name) acc]'(by omega)).name f.name := h1
      omega
    · exact h
    · exfalso
      have := low_lt h ht
      omega
  refine ⟨e, ?_⟩
  rw [e]
  unfold eqAt
  rw [ht]
  simp [hc]
theorem fldT_info : (Tryz.prog.info? 144).map (fun i => (i.zero, i.size, i.bytes)) = some (some (.agg #[.string .empty, .int .i64 0, .bool false, .bool false]), 4, 32) := by kernel_rfl
theorem read_take {w : World} {B bo oo co t : Nat} {e : TypeId} {acc : List Fld} (h : Own w B e 4 (.slice (some ⟨bo, oo, none⟩) acc.length co) acc.length (acc.flatMap Fld.enc)) (ht : t ≤ acc.length) :
    ∀ j u, ((acc.take t).flatMap Fld.enc)[j]? = some u → w.cell? ((⟨bo, oo, none⟩ : Addr).add j) = some u := by
  intro j u hj
  rw [addr_add]
  refine h.cell rfl ?_
  rw [← flat_take Fld.enc_len acc t ht, List.getElem?_take] at hj
  split at hj
  · exact hj
  · cases hj
theorem read_drop {w : World} {B bo oo co t : Nat} {e : TypeId} {acc : List Fld} (h : Own w B e 4 (.slice (some ⟨bo, oo, none⟩) acc.length co) acc.length (acc.flatMap Fld.enc)) (ht : t ≤ acc.length) :
    ∀ j u, ((acc.drop t).flatMap Fld.enc)[j]? = some u → w.cell? ((⟨bo, oo + t * 4, none⟩ : Addr).add j) = some u := by
  intro j u hj
  rw [addr_add, Nat.add_assoc]
  refine h.cell rfl ?_
  rw [← flat_drop Fld.enc_len acc t ht, List.getElem?_drop] at hj
  exact hj
theorem read_new {w : World} {e : TypeId} (f : Fld) : ∀ j u, f.enc[j]? = some u → (w.alloc (.cells #[.string f.name, .int .i64 f.ty, .bool f.must, .bool f.key] e)).cell? ((⟨w.heap.size, 0, none⟩ : Addr).add j) = some u := by
  intro j u hj
  rw [addr_add, Nat.zero_add, World.cell?_alloc_at _ _ _ _ rfl]
  simpa [Fld.enc] using hj
theorem Own.cast {w : World} {B : Nat} {e : TypeId} {sz : Nat} {v : Value} {n n' : Nat} {xs xs' : List Value} (h : Own w B e sz v n xs) (hn : n = n') (hx : xs = xs') : Own w B e sz v n' xs' := by subst hn; subst hx; exact h
set_option maxRecDepth 100000 in
set_option maxHeartbeats 8000000 in
theorem rfieldsO_any (l : List Knd) (name : ByteArray) (v : Value) (w : World) (hv : Sl kndL w v l) (hw : Wf l) (hn : 0 ≤ kFind l name) (hll : l.length ≤ 12) (hfl : ∀ k ∈ l, k.fields.length ≤ 8) :
    Calls Tryz.prog 69 #[v, .string name] w (FieldsO l name w) := by
  obtain ⟨i0, ei, ez, ez1, ez2⟩ := info_parts fldT_info
  obtain ⟨A, c, rfl, _, _⟩ := hv.form
  have HV := Lib.hid hv
  have HFL := Lib.hid hfl
  have hkc := rkin_any l name _ w hv hw hn hll
  have HM : Hid (∀ s ∈ kinL l name, ∃ (i : Nat) (k : Knd), kFind l s = i ∧ l[i]? = some k ∧ fldsFor l s = k.fields) := kin_known
  have HF : Hid (fieldsOf l name = (((kinL l name).drop 0).flatMap (fldsFor l)).foldlM putF []) := by unfold Hid; rw [fieldsOf_eq, List.drop_zero]; rfl
  have hkl := kinL_len l name
  clear hv hfl hw hn
  go_enter Tryz.func69, Tryz.ntmps69
  go_wp2_with fail
  refine hkc.mono ?_
  clear hkc
  rintro e w1 ⟨kv, rfl, hks, hb1⟩
  generalize kinL l name = ks at *
  obtain ⟨Ak, ck, rfl, _, _⟩ := hks.form
  have hks13 : (ks.length : Int) ≤ 12 := by omega
  go_wp2_with fail
  go_loopw [6, 8] (fun ov i wr => ∃ (k : Nat) (acc : List Fld), k ≤ ks.length ∧ i = .int .i64 k ∧ Below w1.heap.size w1 wr ∧ Own wr w1.heap.size 144 4 ov acc.length (acc.flatMap Fld.enc) ∧ acc.length ≤ 8 * k ∧
    Hid (∀ x ∈ acc, x.ok) ∧ Hid (Rise acc) ∧ Hid (fieldsOf l name = ((ks.drop k).flatMap (fldsFor l)).foldlM putF acc)) (fun _ i _ => ks.length - (intOf i).toNat)
  case atStart => exact ⟨0, [], Nat.zero_le _, rfl, Below.refl _ _, Own.nil _ _ _ _, Nat.le_refl _, (by intro x hx; simp at hx), List.Pairwise.nil, HF⟩
  case round =>
    obtain ⟨k, acc, hk, rfl, hbr, hown, hacc, HO, HR, HE⟩ := hrel
    by_cases hlt : k < ks.length
    · obtain ⟨s, hs⟩ : ∃ s, ks[k]? = some s := ⟨_, List.getElem?_eq_getElem hlt⟩
      obtain ⟨idx, kd, hidx, hkd, hfs⟩ := HM.out s (List.mem_of_getElem? hs)
      have HE2 : Hid (fieldsOf l name = (kd.fields ++ (ks.drop (k + 1)).flatMap (fldsFor l)).foldlM putF acc) := by
        unfold Hid; rw [HE.out, drop_cons hs, List.flatMap_cons, hfs]
      obtain ⟨bk, ok, rfl, hss, x0⟩ := str_at (hks.below hbr) hs
      have hbwr := hb1.trans (hbr.mono hb1.size)
      have hc := rkind_any l s _ wr (HV.out.below hbwr)
      rw [hidx] at hc
      have hkf : kd.fields.length ≤ 8 := HFL.out kd (List.mem_of_getElem? hkd)
      have hil : idx < l.length := (List.getElem?_eq_some_iff.1 hkd).1
      have hil' : (idx : Int) < (l.length : Int) := by omega
      have hlt' : (k : Int) < (ks.length : Int) := by omega
      obtain ⟨bl, ol, rfl, u, x, _, _, hfx, _, _, c2w⟩ := knd_at HV.out hkd
      have c2 := cell_below hbwr c2w
      obtain ⟨Af, cf, rfl, hfc, _⟩ := hfx.form
      have HKS := Lib.hid hks
      clear HE hs hidx hfs hkd hks hkl c2w
      go_wp2_with fail
      refine hc.mono ?_
      clear hc
      rintro e w2 ⟨rfl, rfl⟩
      clear x0
      go_wp2_with fail
      clear c2
      go_loopw [6, 10] (fun ov j wx => ∃ (m : Nat) (acc : List Fld), m ≤ kd.fields.length ∧ j = .int .i64 m ∧ Below w1.heap.size w1 wx ∧ Own wx w1.heap.size 144 4 ov acc.length (acc.flatMap Fld.enc) ∧ acc.length ≤ 8 * k + m ∧
        Hid (∀ x ∈ acc, x.ok) ∧ Hid (Rise acc) ∧ Hid (fieldsOf l name = (kd.fields.drop m ++ (ks.drop (k + 1)).flatMap (fldsFor l)).foldlM putF acc)) (fun _ j _ => kd.fields.length - (intOf j).toNat)
      case atStart => exact ⟨0, acc, Nat.zero_le _, rfl, hbr, hown, hacc, HO, HR, by unfold Hid; rw [List.drop_zero]; exact HE2.out⟩
      case round =>
        clear hacc HO HR HE2 hown hbr hbwr
        obtain ⟨m, acc, hm, rfl, hbx, hown, hacc, HO, HR, HE⟩ := hrel
        obtain ⟨Ao, co, rfl, hoc, hom⟩ := hown.form
        have hbwx := hb1.trans (hbx.mono hb1.size)
        obtain ⟨w3, rfl⟩ : ∃ w3 : World, w3 = wr := ⟨_, rfl⟩
        by_cases hm2 : m < kd.fields.length
        · obtain ⟨f, hf⟩ : ∃ f, kd.fields[m]? = some f := ⟨_, List.getElem?_eq_getElem hm2⟩
          obtain ⟨bf, of, rfl, hok, y0, y1, y2, y3⟩ := fld_at (hfx.below hbwx) hf
          have HE3 : Hid (fieldsOf l name = (f :: (kd.fields.drop (m + 1) ++ (ks.drop (k + 1)).flatMap (fldsFor l))).foldlM putF acc) := by
            unfold Hid; rw [HE.out, drop_cons hf]; rfl
          have HS := Lib.hid (fold_step HE3.out)
          have hm2' : (m : Int) < (kd.fields.length : Int) := by omega
          have hm8 : (m : Int) ≤ 8 := by omega
          have hacc' : (acc.length : Int) ≤ 1000 := by omega
          have hokf : ∀ x ∈ acc, x.ok := HO.out
          have HOF : Hid (∀ acc', putF acc f = some acc' → (∀ x ∈ acc', x.ok) ∧ Rise acc') := fun acc' he =>
            ⟨fun x hx => by rcases (mem_putF he x).1 hx with h | rfl; exact hokf x h; exact hok, putF_rise HR.out he⟩
          clear hokf hf HE HE3
          go_wp2_with fail
          go_loopw [11] (fun t wx => ∃ (z : Int) (p : Nat), p ≤ acc.length ∧ z = p ∧ t = .int .i64 z ∧ Below w1.heap.size w1 wx ∧ Below w3.heap.size w3 wx ∧ Hid (∀ i d, p ≤ i → acc[i]? = some d → ltS f.name d.name = true)) (fun t _ => (intOf t).toNat)
          case atStart => exact ⟨acc.length, acc.length, Nat.le_refl _, rfl, rfl, hbx, Below.refl _ _, fun i d hi hd => by rw [List.getElem?_eq_none hi] at hd; cases hd⟩
          case round =>
            obtain ⟨z, p, hp, hzp, rfl, hby, hb3, HA⟩ := hrel
            have z0 := cell_below hb3 y0
            have z1 := cell_below hb3 y1
            have z2 := cell_below hb3 y2
            have z3 := cell_below hb3 y3
            have hownr := hown.below hb3
            clear y0 y1 y2 y3
            cases p with
            | zero =>
              obtain rfl : z = 0 := by omega
              clear hzp
              have hz0 : ¬ ((0 : Int) < 0) := by omega
              obtain ⟨HP1, HP2⟩ := low_new HR.out hp HA.out (.inl rfl)
              have HP := Lib.hid (put_new HP2)
              rw [HP1] at HP
              clear HP1 HP2
              rcases hown.2 with ⟨hv0, h0⟩ | ⟨bo, oo, cap, cur, hv0, _⟩
              · injection hv0 with hA _ hc'
                subst hA; subst hc'
                go_wp2_with fail
                go_quiet (fail)
                go_wp2_with fail
                go_quiet (fail)
                generalize hx0 : (wr.drewN _).drewN _ = W0
                have hbx0 : Below wr.heap.size wr W0 := by rw [← hx0]; exact below_drewN (below_drewN (Below.refl _ _) _) _
                have hsx : W0.heap.size = wr.heap.size := by rw [← hx0]; rfl
                have hownx := hownr.below hbx0
                clear hx0
                have hws := hby.size
                have hY0 := Lib.hid z0
                have hY1 := Lib.hid z1
                have hY2 := Lib.hid z2
                have hY3 := Lib.hid z3
                go_wp2_with (first
                  | (at_builtin; refine wpList_append_q _ rfl (.tmp 84) (.tmp 87) _ rfl w1.heap.size 144 i0 (.agg #[.string .empty, .int .i64 0, .bool false, .bool false]) 4 32 Tryz.underlying37 ei ez ez1 ez2 rfl (by decide) (.slice none 0 0) 0 [] rfl (Own.nil _ _ _ _) _ (0) _ ((acc.take (0)).flatMap Fld.enc) rfl (by rw [flat_len Fld.enc_len]; simp <;> omega) (fun h => absurd h (by omega)) (oneCell_flat Fld.enc_one _) (by unfold maxLen; omega) (by omega) (by omega) ?_
                     intro v7 w7 hown7 hg7 hat7
                     have hs7 := hg7.size
                     have hb7 : Below wr.heap.size wr w7 := hbx0.grown hg7 (by omega) (fun k e => by cases e)
                     have hB7 : ∀ k, v7.ownBlock = some k → k = wr.heap.size := fun k e => by
                       rcases hat7 with h | h
                       · rw [h] at e; cases e
                       · rw [h] at e; injection e with e; omega
                     have x0 := cell_below hb7 hY0.out
                     have x1 := cell_below hb7 hY1.out
                     have x2 := cell_below hb7 hY2.out
                     have x3 := cell_below hb7 hY3.out
                     have hsw7 := hb7.size)
                  | (at_builtin; refine wpList_append_q _ rfl (.tmp 89) (.tmp 94) _ rfl w1.heap.size 144 i0 (.agg #[.string .empty, .int .i64 0, .bool false, .bool false]) 4 32 Tryz.underlying37 ei ez ez1 ez2 rfl (by decide) v7 (0 + (0)) ([] ++ (acc.take (0)).flatMap Fld.enc) rfl (hown7.alloc _) _ 1 1 f.enc rfl rfl (fun _ => ⟨_, rfl, read_new f⟩) f.enc_one (by unfold maxLen; omega) (by omega) (by simp; omega) ?_
                     intro v8 w8 hown8 hg8 hat8
                     have hs8 := hg8.size
                     have hb8 : Below wr.heap.size wr w8 := (hb7.alloc hb7.size _).grown hg8 (by simp at hs8 ⊢; omega) (fun k e => by rw [hB7 k e]; exact Nat.le_refl _)
                     have hsw8 := hb8.size
                     have hown8a := hownr.below hb8)
                  | (at_builtin; refine wpList_append_q _ rfl (.tmp 96) (.tmp 99) _ rfl w1.heap.size 144 i0 (.agg #[.string .empty, .int .i64 0, .bool false, .bool false]) 4 32 Tryz.underlying37 ei ez ez1 ez2 rfl (by decide) v8 (0 + (0) + 1) ([] ++ (acc.take (0)).flatMap Fld.enc ++ f.enc) rfl hown8 _ _ _ ((acc.drop (0)).flatMap Fld.enc) rfl (by rw [flat_len Fld.enc_len]; simp <;> omega) (fun h => absurd h (by omega)) (oneCell_flat Fld.enc_one _) (by unfold maxLen; omega) (by omega) (by omega) ?_
                     intro v9 w9 hown9 hg9 hat9))
                have hb9 : Below wr.heap.size wr w9 := hb8.grown hg9 (by have := hg9.size; omega) (fun k e => by
                  rcases hat8 with h | h
                  · rw [h] at e; rw [hB7 k e]; exact Nat.le_refl _
                  · rw [h] at e; injection e with e; simp at e; omega)
                have hby9 := hby.trans (hb9.mono hby.size)
                have hl9 : (acc.take (0) ++ f :: acc.drop (0)).length = acc.length + 1 := by simp <;> omega
                have ho9 : Own w9 w1.heap.size 144 4 v9 (acc.take (0) ++ f :: acc.drop (0)).length ((acc.take (0) ++ f :: acc.drop (0)).flatMap Fld.enc) := hown9.cast (by rw [hl9]; omega) (by simp)
                have HN := Lib.hid (HS.out.1 _ HP.out)
                have HO2 := Lib.hid (HOF.out _ HP.out).1
                have HR2 := Lib.hid (HOF.out _ HP.out).2
                have hl2 : (acc.take (0) ++ f :: acc.drop (0)).length ≤ 8 * k + (m + 1) := by omega
                go_roundw
                case rel => exact ⟨m + 1, _, by omega, by go_num, hby9, ho9, hl2, HO2, HR2, HN⟩
                case measure => simp [intOf]; omega
              · injection hv0 with hA _ hc'
                subst hA
                clear hc'
                go_wp2_with fail
                go_quiet (fail)
                go_wp2_with fail
                go_quiet (fail)
                generalize hx0 : (wr.drewN _).drewN _ = W0
                have hbx0 : Below wr.heap.size wr W0 := by rw [← hx0]; exact below_drewN (below_drewN (Below.refl _ _) _) _
                have hsx : W0.heap.size = wr.heap.size := by rw [← hx0]; rfl
                have hownx := hownr.below hbx0
                clear hx0
                have hws := hby.size
                have hY0 := Lib.hid z0
                have hY1 := Lib.hid z1
                have hY2 := Lib.hid z2
                have hY3 := Lib.hid z3
                go_wp2_with (first
                  | (at_builtin; refine wpList_append_q _ rfl (.tmp 84) (.tmp 87) _ rfl w1.heap.size 144 i0 (.agg #[.string .empty, .int .i64 0, .bool false, .bool false]) 4 32 Tryz.underlying37 ei ez ez1 ez2 rfl (by decide) (.slice none 0 0) 0 [] rfl (Own.nil _ _ _ _) _ (0) _ ((acc.take (0)).flatMap Fld.enc) rfl (by rw [flat_len Fld.enc_len]; simp <;> omega) (fun h => absurd h (by omega)) (oneCell_flat Fld.enc_one _) (by unfold maxLen; omega) (by omega) (by omega) ?_
                     intro v7 w7 hown7 hg7 hat7
                     have hs7 := hg7.size
                     have hb7 : Below wr.heap.size wr w7 := hbx0.grown hg7 (by omega) (fun k e => by cases e)
                     have hB7 : ∀ k, v7.ownBlock = some k → k = wr.heap.size := fun k e => by
                       rcases hat7 with h | h
                       · rw [h] at e; cases e
                       · rw [h] at e; injection e with e; omega
                     have x0 := cell_below hb7 hY0.out
                     have x1 := cell_below hb7 hY1.out
                     have x2 := cell_below hb7 hY2.out
                     have x3 := cell_below hb7 hY3.out
                     have hsw7 := hb7.size)
                  | (at_builtin; refine wpList_append_q _ rfl (.tmp 89) (.tmp 94) _ rfl w1.heap.size 144 i0 (.agg #[.string .empty, .int .i64 0, .bool false, .bool false]) 4 32 Tryz.underlying37 ei ez ez1 ez2 rfl (by decide) v7 (0 + (0)) ([] ++ (acc.take (0)).flatMap Fld.enc) rfl (hown7.alloc _) _ 1 1 f.enc rfl rfl (fun _ => ⟨_, rfl, read_new f⟩) f.enc_one (by unfold maxLen; omega) (by omega) (by simp; omega) ?_
                     intro v8 w8 hown8 hg8 hat8
                     have hs8 := hg8.size
                     have hb8 : Below wr.heap.size wr w8 := (hb7.alloc hb7.size _).grown hg8 (by simp at hs8 ⊢; omega) (fun k e => by rw [hB7 k e]; exact Nat.le_refl _)
                     have hsw8 := hb8.size
                     have hown8a := hownr.below hb8)
                  | (at_builtin; refine wpList_append_q _ rfl (.tmp 96) (.tmp 99) _ rfl w1.heap.size 144 i0 (.agg #[.string .empty, .int .i64 0, .bool false, .bool false]) 4 32 Tryz.underlying37 ei ez ez1 ez2 rfl (by decide) v8 (0 + (0) + 1) ([] ++ (acc.take (0)).flatMap Fld.enc ++ f.enc) rfl hown8 _ _ _ ((acc.drop (0)).flatMap Fld.enc) rfl (by rw [flat_len Fld.enc_len]; simp <;> omega) (fun h => ⟨⟨bo, oo + 0 * 4, none⟩, by have hne : ¬ co = 0 := (by omega); simp [hne, addr_add], read_drop hown8a (by omega)⟩) (oneCell_flat Fld.enc_one _) (by unfold maxLen; omega) (by omega) (by omega) ?_
                     intro v9 w9 hown9 hg9 hat9))
                have hb9 : Below wr.heap.size wr w9 := hb8.grown hg9 (by have := hg9.size; omega) (fun k e => by
                  rcases hat8 with h | h
                  · rw [h] at e; rw [hB7 k e]; exact Nat.le_refl _
                  · rw [h] at e; injection e with e; simp at e; omega)
                have hby9 := hby.trans (hb9.mono hby.size)
                have hl9 : (acc.take (0) ++ f :: acc.drop (0)).length = acc.length + 1 := by simp <;> omega
                have ho9 : Own w9 w1.heap.size 144 4 v9 (acc.take (0) ++ f :: acc.drop (0)).length ((acc.take (0) ++ f :: acc.drop (0)).flatMap Fld.enc) := hown9.cast (by rw [hl9]; omega) (by simp)
                have HN := Lib.hid (HS.out.1 _ HP.out)
                have HO2 := Lib.hid (HOF.out _ HP.out).1
                have HR2 := Lib.hid (HOF.out _ HP.out).2
                have hl2 : (acc.take (0) ++ f :: acc.drop (0)).length ≤ 8 * k + (m + 1) := by omega
                go_roundw
                case rel => exact ⟨m + 1, _, by omega, by go_num, hby9, ho9, hl2, HO2, HR2, HN⟩
                case measure => simp [intOf]; omega
            | succ p =>
              obtain rfl : z = (p : Int) + 1 := by omega
              clear hzp
              obtain ⟨q, hq⟩ : ∃ d, acc[p]? = some d := ⟨_, List.getElem?_eq_getElem (by omega)⟩
              obtain ⟨bo, oo, hAo, _, r0, r1, r2, r3⟩ := fld_at (hownr.flds HO.out) hq
              subst hAo
              have hpl : (p : Int) < (acc.length : Int) := by omega
              have hp0 : (0 : Int) < (p : Int) + 1 := by omega
              have hL : Op.bytesLess q.name.toList f.name.toList = decide (fldC f.name q < 0) := ltS_cmp q.name f.name
              have hE : (q.name.toList == f.name.toList) = decide (q.name = f.name) := bytes_beq q.name f.name
              rcases Int.lt_trichotomy (fldC f.name q) 0 with hc | hc | hc
              · have hqf : ¬ q.name = f.name := fun e => by unfold fldC at hc; rw [cmpS_zero.2 e] at hc; omega
                rw [decide_eq_true hc] at hL
                rw [decide_eq_false hqf] at hE
                have hE2 : ¬ q.name.toList = f.name.toList := by rw [bytes_eq]; exact hqf
                obtain ⟨HP1, HP2⟩ := low_new HR.out hp HA.out (.inr ⟨q, by simpa using hq, hc⟩)
                have HP := Lib.hid (put_new HP2)
                rw [HP1] at HP
                have hpo : (p : Int) + 1 ≤ (co : Int) := by omega
                have hpl' : (p : Int) + 1 ≤ (acc.length : Int) := by omega
                clear HP1 HP2 hc hqf hq
                go_wp2_with fail
                go_quiet (fail)
                go_wp2_with fail
                go_quiet (fail)
                generalize hx0 : (wr.drewN _).drewN _ = W0
                have hbx0 : Below wr.heap.size wr W0 := by rw [← hx0]; exact below_drewN (below_drewN (Below.refl _ _) _) _
                have hsx : W0.heap.size = wr.heap.size := by rw [← hx0]; rfl
                have hownx := hownr.below hbx0
                clear hx0
                have hws := hby.size
                have hY0 := Lib.hid z0
                have hY1 := Lib.hid z1
                have hY2 := Lib.hid z2
                have hY3 := Lib.hid z3
                go_wp2_with (first
                  | (at_builtin; refine wpList_append_q _ rfl (.tmp 84) (.tmp 87) _ rfl w1.heap.size 144 i0 (.agg #[.string .empty, .int .i64 0, .bool false, .bool false]) 4 32 Tryz.underlying37 ei ez ez1 ez2 rfl (by decide) (.slice none 0 0) 0 [] rfl (Own.nil _ _ _ _) _ (p + 1) _ ((acc.take (p + 1)).flatMap Fld.enc) rfl (by rw [flat_len Fld.enc_len]; simp <;> omega) (fun _ => ⟨_, rfl, read_take hownx (by omega)⟩) (oneCell_flat Fld.enc_one _) (by unfold maxLen; omega) (by omega) (by omega) ?_
                     intro v7 w7 hown7 hg7 hat7
                     have hs7 := hg7.size
                     have hb7 : Below wr.heap.size wr w7 := hbx0.grown hg7 (by omega) (fun k e => by cases e)
                     have hB7 : ∀ k, v7.ownBlock = some k → k = wr.heap.size := fun k e => by
                       rcases hat7 with h | h
                       · rw [h] at e; cases e
                       · rw [h] at e; injection e with e; omega
                     have x0 := cell_below hb7 hY0.out
                     have x1 := cell_below hb7 hY1.out
                     have x2 := cell_below hb7 hY2.out
                     have x3 := cell_below hb7 hY3.out
                     have hsw7 := hb7.size)
                  | (at_builtin; refine wpList_append_q _ rfl (.tmp 89) (.tmp 94) _ rfl w1.heap.size 144 i0 (.agg #[.string .empty, .int .i64 0, .bool false, .bool false]) 4 32 Tryz.underlying37 ei ez ez1 ez2 rfl (by decide) v7 (0 + (p + 1)) ([] ++ (acc.take (p + 1)).flatMap Fld.enc) rfl (hown7.alloc _) _ 1 1 f.enc rfl rfl (fun _ => ⟨_, rfl, read_new f⟩) f.enc_one (by unfold maxLen; omega) (by omega) (by simp; omega) ?_
                     intro v8 w8 hown8 hg8 hat8
                     have hs8 := hg8.size
                     have hb8 : Below wr.heap.size wr w8 := (hb7.alloc hb7.size _).grown hg8 (by simp at hs8 ⊢; omega) (fun k e => by rw [hB7 k e]; exact Nat.le_refl _)
                     have hsw8 := hb8.size
                     have hown8a := hownr.below hb8)
                  | (at_builtin; refine wpList_append_q _ rfl (.tmp 96) (.tmp 99) _ rfl w1.heap.size 144 i0 (.agg #[.string .empty, .int .i64 0, .bool false, .bool false]) 4 32 Tryz.underlying37 ei ez ez1 ez2 rfl (by decide) v8 (0 + (p + 1) + 1) ([] ++ (acc.take (p + 1)).flatMap Fld.enc ++ f.enc) rfl hown8 _ _ _ ((acc.drop (p + 1)).flatMap Fld.enc) rfl (by rw [flat_len Fld.enc_len]; simp <;> omega) (fun h => ⟨⟨bo, oo + (p + 1) * 4, none⟩, by have hne : ¬ co = p + 1 := (by omega); simp [hne, addr_add], read_drop hown8a (by omega)⟩) (oneCell_flat Fld.enc_one _) (by unfold maxLen; omega) (by omega) (by omega) ?_
                     intro v9 w9 hown9 hg9 hat9))
                have hb9 : Below wr.heap.size wr w9 := hb8.grown hg9 (by have := hg9.size; omega) (fun k e => by
                  rcases hat8 with h | h
                  · rw [h] at e; rw [hB7 k e]; exact Nat.le_refl _
                  · rw [h] at e; injection e with e; simp at e; omega)
                have hby9 := hby.trans (hb9.mono hby.size)
                have hl9 : (acc.take (p + 1) ++ f :: acc.drop (p + 1)).length = acc.length + 1 := by simp <;> omega
                have ho9 : Own w9 w1.heap.size 144 4 v9 (acc.take (p + 1) ++ f :: acc.drop (p + 1)).length ((acc.take (p + 1) ++ f :: acc.drop (p + 1)).flatMap Fld.enc) := hown9.cast (by rw [hl9]; omega) (by simp)
                have HN := Lib.hid (HS.out.1 _ HP.out)
                have HO2 := Lib.hid (HOF.out _ HP.out).1
                have HR2 := Lib.hid (HOF.out _ HP.out).2
                have hl2 : (acc.take (p + 1) ++ f :: acc.drop (p + 1)).length ≤ 8 * k + (m + 1) := by omega
                go_roundw
                case rel => exact ⟨m + 1, _, by omega, by go_num, hby9, ho9, hl2, HO2, HR2, HN⟩
                case measure => simp [intOf]; omega
              · have hqf : q.name = f.name := by unfold fldC at hc; exact cmpS_zero.1 hc
                rw [decide_eq_false (show ¬ fldC f.name q < 0 by omega)] at hL
                rw [decide_eq_true hqf] at hE
                obtain ⟨HP1, HP2⟩ := at_old HR.out hq hqf
                have HP := Lib.hid (put_old HP2 (by rw [HP1]; exact hq))
                have hneq := fld_neq q f
                have hgd := fld_guard
                clear HP1 HP2 hc hqf hq
                by_cases hqq : q = f
                · have hd : decide (q = f) = true := decide_eq_true hqq
                  have HP2 : Hid (putF acc f = some acc) := by unfold Hid; rw [HP.out, if_pos hqq]
                  rw [hd] at hneq
                  have HN := Lib.hid (HS.out.1 _ HP2.out)
                  clear HS HP HP2 HOF hd hqq
                  go_wp2_with fail
                  go_quiet (fail)
                  go_wp2_with fail
                  go_quiet (fail)
                  go_wp2_with fail
                  go_quiet (fail)
                  go_wp2_with fail
                  go_roundw
                  case rel => exact ⟨m + 1, acc, by omega, by go_num, below_drewN hby _, hownr.drewN _, by omega, HO, HR, HN⟩
                  case measure => simp [intOf]; omega
                · have hd : decide (q = f) = false := decide_eq_false hqq
                  have HP2 : Hid (putF acc f = none) := by unfold Hid; rw [HP.out, if_neg hqq]
                  rw [hd] at hneq
                  have HN := Lib.hid (HS.out.2 HP2.out)
                  clear HS HP HP2 HOF hd hqq
                  go_wp2_with fail
                  go_quiet (fail)
                  go_wp2_with fail
                  go_quiet (fail)
                  go_wp2_with fail
                  go_quiet (fail)
                  go_wp2_with fail
                  go_ret2
                  refine ⟨.slice none 0 0, ?_, ?_, below_drewN (below_drewN (below_drewN (hb1.trans (hby.mono hb1.size)) _) _) _⟩
                  · rw [HN.out]; rfl
                  · rw [HN.out]; exact ⟨Own.nil _ _ _ _, fun x hx => by simp at hx⟩
              · have hqf : ¬ q.name = f.name := fun e => by unfold fldC at hc; rw [cmpS_zero.2 e] at hc; omega
                rw [decide_eq_false (show ¬ fldC f.name q < 0 by omega)] at hL
                rw [decide_eq_false hqf] at hE
                have hE2 : ¬ q.name.toList = f.name.toList := by rw [bytes_eq]; exact hqf
                have HN : Hid (∀ i d, p ≤ i → acc[i]? = some d → ltS f.name d.name = true) := fun i d hi hd => by
                  by_cases hip : i = p
                  · subst hip; rw [hq] at hd; injection hd with hd; subst hd; rw [fldC_lt]; exact decide_eq_true hc
                  · exact HA.out i d (by omega) hd
                clear hq hc hqf
                go_wp2_with fail
                go_quiet (fail)
                go_wp2_with fail
                go_roundw
                case rel => exact ⟨p, p, by omega, rfl, by go_num, below_drewN hby _, below_drewN hb3 _, HN⟩
                case measure => simp [intOf]
        · obtain rfl : m = kd.fields.length := by omega
          have HE3 : Hid (fieldsOf l name = ((ks.drop (k + 1)).flatMap (fldsFor l)).foldlM putF acc) := by unfold Hid; rw [HE.out, List.drop_length]; rfl
          clear HE
          go_wp2_with fail
          go_roundw
          case rel => exact ⟨k + 1, acc, by omega, by go_num, hbx, hown, by omega, HO, HR, HE3⟩
          case measure => simp [intOf]; omega
    · obtain rfl : k = ks.length := by omega
      have HQ : Hid (fieldsOf l name = some acc) := by unfold Hid; rw [HE.out, List.drop_length]; rfl
      obtain ⟨Ao, co, rfl, _, _⟩ := hown.form
      go_wp2_with fail
      go_ret2
      refine ⟨.slice Ao acc.length co, ?_, ?_, hb1.trans (hbr.mono hb1.size)⟩
      · rw [HQ.out]; rfl
      · rw [HQ.out]; exact ⟨hown.mono hb1.size, HO.out⟩
theorem rfields_any (l : List Knd) (name : ByteArray) (v : Value) (w : World) (hv : Sl kndL w v l) (hw : Wf l) (hn : 0 ≤ kFind l name) (hll : l.length ≤ 12) (hfl : ∀ k ∈ l, k.fields.length ≤ 8) :
    Calls Tryz.prog 69 #[v, .string name] w (FieldsR l name w) :=
  (rfieldsO_any l name v w hv hw hn hll hfl).mono fun _ _ ⟨u, h1, h2, h3⟩ => ⟨u, h1, h2.1.flds h2.2, h3⟩
end Go.Proofs.YtfjnkidblalckaaGreatDoor

/- Plain: one more kind that is right: the list stays well formed. -/
namespace Go.Proofs.YtfjnkidblalckaaGreatDoor

theorem get_take_up {l : List Knd} {i m : Nat} {x : Knd} (h : (l.take i)[m]? = some x) : (l.take (i + 1))[m]? = some x := by
  rw [List.getElem?_take] at h ⊢
  split at h
  · rw [if_pos (by omega)]; exact h
  · cases h
theorem get_take_dn {l : List Knd} {i m : Nat} {x : Knd} (hm : m < i) (h : (l.take (i + 1))[m]? = some x) : (l.take i)[m]? = some x := by
  rw [List.getElem?_take] at h ⊢
  rw [if_pos (by omega)] at h
  rw [if_pos hm]; exact h
theorem wf_snoc {l : List Knd} {i : Nat} {k : Knd} (hw : Wf (l.take i)) (hk : l[i]? = some k) (hnew : kFind (l.take i) k.name < 0) (ho : ofsE (l.take i) [] k.ofs = 0) : Wf (l.take (i + 1)) := by
  intro m x hx
  by_cases hm : m < i
  · obtain ⟨a, b⟩ := hw m x (get_take_dn hm hx)
    refine ⟨fun j y hj hy => a j y hj (get_take_dn (by omega) hy), fun s hs => ?_⟩
    obtain ⟨j, y, h1, h2, h3⟩ := b s hs
    exact ⟨j, y, h1, get_take_up h2, h3⟩
  · have hmi : m = i := by
      have := (List.getElem?_eq_some_iff.1 hx).1
      simp at this; omega
    subst hmi
    have hxk : x = k := by
      rw [List.getElem?_take, if_pos (by omega), hk] at hx
      injection hx with hx; exact hx.symm
    subst hxk
    refine ⟨fun j y hj hy => kFind_neg hnew y (List.mem_of_getElem? (get_take_dn hj hy)), fun s hs => ?_⟩
    obtain ⟨j, y, h1, h2, h3, _⟩ := kFind_pos (ofsE_zero ho s hs)
    have hjl := (List.getElem?_eq_some_iff.1 h2).1
    simp at hjl
    exact ⟨j, y, by omega, get_take_up h2, h3⟩
end Go.Proofs.YtfjnkidblalckaaGreatDoor
