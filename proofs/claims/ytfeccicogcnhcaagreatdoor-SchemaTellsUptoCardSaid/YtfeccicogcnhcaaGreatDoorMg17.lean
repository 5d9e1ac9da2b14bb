/- Parts: RefE, RefW, RefF, RfS. -/
import Derived.Test.YtfeccicogcnhcaaGreatDoorMg16
import Derived.Test.YtfeccicogcnhcaaGreatDoorMg04
import Derived.Test.YtfeccicogcnhcaaGreatDoorMg05
/- Contract of the references: kinref1.Fields. -/
namespace Go.Proofs.YtfeccicogcnhcaaGreatDoor
open Go Go.RowKit

theorem fldC_lt (f d : Fld) : ltS f.name d.name = decide (0 < fldC f.name d) := by
  rw [ltS_cmp]
  unfold fldC
  rw [cmpS_anti d.name f.name]
  congr 1
  apply propext
  omega
/-- Where all from t on are greater, and the one ahead of it is not. -/
theorem low_new {acc : List Fld} {f : Fld} {t : Nat} (hr : Rise acc) (ht : t ≤ acc.length) (hA : ∀ i d, t ≤ i → acc[i]? = some d → ltS f.name d.name = true) (hB : t = 0 ∨ ∃ d, acc[t - 1]? = some d ∧ fldC f.name d < 0) :
    lowI (fldC f.name) acc = t ∧ eqAt (fldC f.name) acc (lowI (fldC f.name) acc) = false := by
  have hle := lowI_le (fldC f.name) acc
  have e : lowI (fldC f.name) acc = t := by
    rcases Nat.lt_trichotomy (lowI (fldC f.name) acc) t with h | h | h
    · exfalso
      rcases hB with h0 | ⟨d, hd, hc⟩
      · omega
      · have := low_ge (rise_chain hr) (fldC_mono f.name) (show lowI (fldC f.name) acc ≤ t - 1 by omega) hd
        omega
    · exact h
    · exfalso
      have hl : t < acc.length := by omega
      have h1 := low_lt h (List.getElem?_eq_getElem hl)
      have h2 := hA t _ (Nat.le_refl _) (List.getElem?_eq_getElem hl)
      rw [fldC_lt] at h2
      simp at h2
      omega
  refine ⟨e, ?_⟩
  rw [e]
  unfold eqAt
  cases hd : acc[t]? with
  | none => rfl
  | some d =>
    have h2 := hA t d (Nat.le_refl _) hd
    rw [fldC_lt] at h2
    simp at h2 ⊢
    omega
theorem at_old {acc : List Fld} {f q : Fld} {t : Nat} (hr : Rise acc) (ht : acc[t]? = some q) (hq : q.name = f.name) :
    lowI (fldC f.name) acc = t ∧ eqAt (fldC f.name) acc (lowI (fldC f.name) acc) = true := by
  have hc : fldC f.name q = 0 := by unfold fldC; rw [hq]; exact cmpS_zero.2 rfl
  have hl := (List.getElem?_eq_some_iff.1 ht).1
  have e : lowI (fldC f.name) acc = t := by
    rcases Nat.lt_trichotomy (lowI (fldC f.name) acc) t with h | h | h
    · exfalso
      have h1 := low_ge (rise_chain hr) (fldC_mono f.name) (Nat.le_refl (lowI (fldC f.name) acc)) (List.getElem?_eq_getElem (l := acc) (i := lowI (fldC f.name) acc) (by omega))
      have h2 := List.pairwise_iff_getElem.1 hr _ t (by omega) hl h
      obtain ⟨_, e2⟩ := List.getElem?_eq_some_iff.1 ht
      rw [e2, hq] at h2
      have h3 : 0 ≤ cmpS (acc[lowI (fldC f.name) acc]'(by omega)).name f.name := h1
      omega
    · exact h
    · exfalso
      have := low_lt h ht
      omega
  refine ⟨e, ?_⟩
  rw [e]
  unfold eqAt
  rw [ht]
  simp [hc]
theorem fldT_info : (Tryz.prog.info? 61).map (fun i => (i.zero, i.size, i.bytes)) = some (some (.agg #[.string .empty, .int .i64 0, .bool false, .bool false]), 4, 32) := by kernel_rfl
theorem read_take {w : World} {B bo oo co t : Nat} {e : TypeId} {acc : List Fld} (h : Own w B e 4 (.slice (some ⟨bo, oo, none⟩) acc.length co) acc.length (acc.flatMap Fld.enc)) (ht : t ≤ acc.length) :
    ∀ j u, ((acc.take t).flatMap Fld.enc)[j]? = some u → w.cell? ((⟨bo, oo, none⟩ : Addr).add j) = some u := by
  intro j u hj
  rw [addr_add]
  refine h.cell rfl ?_
  rw [← flat_take Fld.enc_len acc t ht, List.getElem?_take] at hj
  split at hj
  · exact hj
  · cases hj
theorem read_drop {w : World} {B bo oo co t : Nat} {e : TypeId} {acc : List Fld} (h : Own w B e 4 (.slice (some ⟨bo, oo, none⟩) acc.length co) acc.length (acc.flatMap Fld.enc)) (ht : t ≤ acc.length) :
    ∀ j u, ((acc.drop t).flatMap Fld.enc)[j]? = some u → w.cell? ((⟨bo, oo + t * 4, none⟩ : Addr).add j) = some u := by
  intro j u hj
  rw [addr_add, Nat.add_assoc]
  refine h.cell rfl ?_
  rw [← flat_drop Fld.enc_len acc t ht, List.getElem?_drop] at hj
  exact hj
theorem read_new {w : World} {e : TypeId} (f : Fld) : ∀ j u, f.enc[j]? = some u → (w.alloc (.cells #[.string f.name, .int .i64 f.ty, .bool f.must, .bool f.key] e)).cell? ((⟨w.heap.size, 0, none⟩ : Addr).add j) = some u := by
  intro j u hj
  rw [addr_add, Nat.zero_add, World.cell?_alloc_at _ _ _ _ rfl]
  simpa [Fld.enc] using hj
theorem Own.cast {w : World} {B : Nat} {e : TypeId} {sz : Nat} {v : Value} {n n' : Nat} {xs xs' : List Value} (h : Own w B e sz v n xs) (hn : n = n') (hx : xs = xs') : Own w B e sz v n' xs' := by subst hn; subst hx; exact h
set_option maxRecDepth 100000 in
set_option maxHeartbeats 8000000 in
theorem rfieldsO_any (l : List Knd) (name : ByteArray) (v : Value) (w : World) (hv : Sl kndL w v l) (hw : Wf l) (hn : 0 ≤ kFind l name) (hll : l.length ≤ 12) (hfl : ∀ k ∈ l, k.fields.length ≤ 8) :
    Calls Tryz.prog 65 #[v, .string name] w (FieldsO l name w) := by
  obtain ⟨i0, ei, ez, ez1, ez2⟩ := info_parts fldT_info
  obtain ⟨A, c, rfl, _, _⟩ := hv.form
  have HV := Lib.hid hv
  have HFL := Lib.hid hfl
  have hkc := rkin_any l name _ w hv hw hn hll
  have HM : Hid (∀ s ∈ kinL l name, ∃ (i : Nat) (k : Knd), kFind l s = i ∧ l[i]? = some k ∧ fldsFor l s = k.fields) := kin_known
  have HF : Hid (fieldsOf l name = (((kinL l name).drop 0).flatMap (fldsFor l)).foldlM putF []) := by unfold Hid; rw [fieldsOf_eq, List.drop_zero]; rfl
  have hkl := kinL_len l name
  clear hv hfl hw hn
  go_enter Tryz.func65, Tryz.ntmps65
  go_wp2_with fail
  refine hkc.mono ?_
  clear hkc
  rintro e w1 ⟨kv, rfl, hks, hb1⟩
  generalize kinL l name = ks at *
  obtain ⟨Ak, ck, rfl, _, _⟩ := hks.form
  have hks13 : (ks.length : Int) ≤ 12 := by omega
  go_wp2_with fail
  go_loopw [6, 8] (fun ov i wr => ∃ (k : Nat) (acc : List Fld), k ≤ ks.length ∧ i = .int .i64 k ∧ Below w1.heap.size w1 wr ∧ Own wr w1.heap.size 61 4 ov acc.length (acc.flatMap Fld.enc) ∧ acc.length ≤ 8 * k ∧
    Hid (∀ x ∈ acc, x.ok) ∧ Hid (Rise acc) ∧ Hid (fieldsOf l name = ((ks.drop k).flatMap (fldsFor l)).foldlM putF acc)) (fun _ i _ => ks.length - (intOf i).toNat)
  case atStart => exact ⟨0, [], Nat.zero_le _, rfl, Below.refl _ _, Own.nil _ _ _ _, Nat.le_refl _, (by intro x hx; simp at hx), List.Pairwise.nil, HF⟩
  case round =>
    obtain ⟨k, acc, hk, rfl, hbr, hown, hacc, HO, HR, HE⟩ := hrel
    by_cases hlt : k < ks.length
    · obtain ⟨s, hs⟩ : ∃ s, ks[k]? = some s := ⟨_, List.getElem?_eq_getElem hlt⟩
      obtain ⟨idx, kd, hidx, hkd, hfs⟩ := HM.out s (List.mem_of_getElem? hs)
      have HE2 : Hid (fieldsOf l name = (kd.fields ++ (ks.drop (k + 1)).flatMap (fldsFor l)).foldlM putF acc) := by
        unfold Hid; rw [HE.out, drop_cons hs, List.flatMap_cons, hfs]
      obtain ⟨bk, ok, rfl, hss, x0⟩ := str_at (hks.below hbr) hs
      have hbwr := hb1.trans (hbr.mono hb1.size)
      have hc := rkind_any l s _ wr (HV.out.below hbwr)
      rw [hidx] at hc
      have hkf : kd.fields.length ≤ 8 := HFL.out kd (List.mem_of_getElem? hkd)
      have hil : idx < l.length := (List.getElem?_eq_some_iff.1 hkd).1
      have hil' : (idx : Int) < (l.length : Int) := by omega
      have hlt' : (k : Int) < (ks.length : Int) := by omega
      obtain ⟨bl, ol, rfl, u, x, _, _, hfx, _, _, c2w⟩ := knd_at HV.out hkd
      have c2 := cell_below hbwr c2w
      obtain ⟨Af, cf, rfl, hfc, _⟩ := hfx.form
      have HKS := Lib.hid hks
      clear HE hs hidx hfs hkd hks hkl c2w
      go_wp2_with fail
      refine hc.mono ?_
      clear hc
      rintro e w2 ⟨rfl, rfl⟩
      clear x0
      go_wp2_with fail
      clear c2
      go_loopw [6, 10] (fun ov j wx => ∃ (m : Nat) (acc : List Fld), m ≤ kd.fields.length ∧ j = .int .i64 m ∧ Below w1.heap.size w1 wx ∧ Own wx w1.heap.size 61 4 ov acc.length (acc.flatMap Fld.enc) ∧ acc.length ≤ 8 * k + m ∧
        Hid (∀ x ∈ acc, x.ok) ∧ Hid (Rise acc) ∧ Hid (fieldsOf l name = (kd.fields.drop m ++ (ks.drop (k + 1)).flatMap (fldsFor l)).foldlM putF acc)) (fun _ j _ => kd.fields.length - (intOf j).toNat)
      case atStart => exact ⟨0, acc, Nat.zero_le _, rfl, hbr, hown, hacc, HO, HR, by unfold Hid; rw [List.drop_zero]; exact HE2.out⟩
      case round =>
        clear hacc HO HR HE2 hown hbr hbwr
        obtain ⟨m, acc, hm, rfl, hbx, hown, hacc, HO, HR, HE⟩ := hrel
        obtain ⟨Ao, co, rfl, hoc, hom⟩ := hown.form
        have hbwx := hb1.trans (hbx.mono hb1.size)
        obtain ⟨w3, rfl⟩ : ∃ w3 : World, w3 = wr := ⟨_, rfl⟩
        by_cases hm2 : m < kd.fields.length
        · obtain ⟨f, hf⟩ : ∃ f, kd.fields[m]? = some f := ⟨_, List.getElem?_eq_getElem hm2⟩
          obtain ⟨bf, of, rfl, hok, y0, y1, y2, y3⟩ := fld_at (hfx.below hbwx) hf
          have HE3 : Hid (fieldsOf l name = (f :: (kd.fields.drop (m + 1) ++ (ks.drop (k + 1)).flatMap (fldsFor l))).foldlM putF acc) := by
            unfold Hid; rw [HE.out, drop_cons hf]; rfl
          have HS := Lib.hid (fold_step HE3.out)
          have hm2' : (m : Int) < (kd.fields.length : Int) := by omega
          have hm8 : (m : Int) ≤ 8 := by omega
          have hacc' : (acc.length : Int) ≤ 1000 := by omega
          have hokf : ∀ x ∈ acc, x.ok := HO.out
          have HOF : Hid (∀ acc', putF acc f = some acc' → (∀ x ∈ acc', x.ok) ∧ Rise acc') := fun acc' he =>
            ⟨fun x hx => by rcases (mem_putF he x).1 hx with h | rfl; exact hokf x h; exact hok, putF_rise HR.out he⟩
          clear hokf hf HE HE3
          go_wp2_with fail
          go_loopw [11] (fun t wx => ∃ (z : Int) (p : Nat), p ≤ acc.length ∧ z = p ∧ t = .int .i64 z ∧ Below w1.heap.size w1 wx ∧ Below w3.heap.size w3 wx ∧ Hid (∀ i d, p ≤ i → acc[i]? = some d → ltS f.name d.name = true)) (fun t _ => (intOf t).toNat)
          case atStart => exact ⟨acc.length, acc.length, Nat.le_refl _, rfl, rfl, hbx, Below.refl _ _, fun i d hi hd => by rw [List.getElem?_eq_none hi] at hd; cases hd⟩
          case round =>
            obtain ⟨z, p, hp, hzp, rfl, hby, hb3, HA⟩ := hrel
            have z0 := cell_below hb3 y0
            have z1 := cell_below hb3 y1
            have z2 := cell_below hb3 y2
            have z3 := cell_below hb3 y3
            have hownr := hown.below hb3
            clear y0 y1 y2 y3
            cases p with
            | zero =>
              obtain rfl : z = 0 := by omega
              clear hzp
              have hz0 : ¬ ((0 : Int) < 0) := by omega
              obtain ⟨HP1, HP2⟩ := low_new HR.out hp HA.out (.inl rfl)
              have HP := Lib.hid (put_new HP2)
              rw [HP1] at HP
              clear HP1 HP2
              rcases hown.2 with ⟨hv0, h0⟩ | ⟨bo, oo, cap, cur, hv0, _⟩
              · injection hv0 with hA _ hc'
                subst hA; subst hc'
                go_wp2_with fail
                go_quiet (fail)
                go_wp2_with fail
                go_quiet (fail)
                generalize hx0 : (wr.drewN _).drewN _ = W0
                have hbx0 : Below wr.heap.size wr W0 := by rw [← hx0]; exact Go.below_drewN (Go.below_drewN (Below.refl _ _) _) _
                have hsx : W0.heap.size = wr.heap.size := by rw [← hx0]; rfl
                have hownx := hownr.below hbx0
                clear hx0
                have hws := hby.size
                have hY0 := Lib.hid z0
                have hY1 := Lib.hid z1
                have hY2 := Lib.hid z2
                have hY3 := Lib.hid z3
                go_wp2_with (first
                  | (at_builtin; refine wpList_append_q _ rfl (.tmp 84) (.tmp 87) _ rfl w1.heap.size 61 i0 (.agg #[.string .empty, .int .i64 0, .bool false, .bool false]) 4 32 Tryz.underlying57 ei ez ez1 ez2 rfl (by decide) (.slice none 0 0) 0 [] rfl (Own.nil _ _ _ _) _ (0) _ ((acc.take (0)).flatMap Fld.enc) rfl (by rw [flat_len Fld.enc_len]; simp <;> omega) (fun h => absurd h (by omega)) (oneCell_flat Fld.enc_one _) (by unfold maxLen; omega) (by omega) (by omega) ?_
                     intro v7 w7 hown7 hg7 hat7
                     have hs7 := hg7.size
                     have hb7 : Below wr.heap.size wr w7 := hbx0.grown hg7 (by omega) (fun k e => by cases e)
                     have hB7 : ∀ k, v7.ownBlock = some k → k = wr.heap.size := fun k e => by
                       rcases hat7 with h | h
                       · rw [h] at e; cases e
                       · rw [h] at e; injection e with e; omega
                     have x0 := cell_below hb7 hY0.out
                     have x1 := cell_below hb7 hY1.out
                     have x2 := cell_below hb7 hY2.out
                     have x3 := cell_below hb7 hY3.out
                     have hsw7 := hb7.size)
                  | (at_builtin; refine wpList_append_q _ rfl (.tmp 89) (.tmp 94) _ rfl w1.heap.size 61 i0 (.agg #[.string .empty, .int .i64 0, .bool false, .bool false]) 4 32 Tryz.underlying57 ei ez ez1 ez2 rfl (by decide) v7 (0 + (0)) ([] ++ (acc.take (0)).flatMap Fld.enc) rfl (hown7.alloc _) _ 1 1 f.enc rfl rfl (fun _ => ⟨_, rfl, read_new f⟩) f.enc_one (by unfold maxLen; omega) (by omega) (by simp; omega) ?_
                     intro v8 w8 hown8 hg8 hat8
                     have hs8 := hg8.size
                     have hb8 : Below wr.heap.size wr w8 := (hb7.alloc hb7.size _).grown hg8 (by simp at hs8 ⊢; omega) (fun k e => by rw [hB7 k e]; exact Nat.le_refl _)
                     have hsw8 := hb8.size
                     have hown8a := hownr.below hb8)
                  | (at_builtin; refine wpList_append_q _ rfl (.tmp 96) (.tmp 99) _ rfl w1.heap.size 61 i0 (.agg #[.string .empty, .int .i64 0, .bool false, .bool false]) 4 32 Tryz.underlying57 ei ez ez1 ez2 rfl (by decide) v8 (0 + (0) + 1) ([] ++ (acc.take (0)).flatMap Fld.enc ++ f.enc) rfl hown8 _ _ _ ((acc.drop (0)).flatMap Fld.enc) rfl (by rw [flat_len Fld.enc_len]; simp <;> omega) (fun h => absurd h (by omega)) (oneCell_flat Fld.enc_one _) (by unfold maxLen; omega) (by omega) (by omega) ?_
                     intro v9 w9 hown9 hg9 hat9))
                have hb9 : Below wr.heap.size wr w9 := hb8.grown hg9 (by have := hg9.size; omega) (fun k e => by
                  rcases hat8 with h | h
                  · rw [h] at e; rw [hB7 k e]; exact Nat.le_refl _
                  · rw [h] at e; injection e with e; simp at e; omega)
                have hby9 := hby.trans (hb9.mono hby.size)
                have hl9 : (acc.take (0) ++ f :: acc.drop (0)).length = acc.length + 1 := by simp <;> omega
                have ho9 : Own w9 w1.heap.size 61 4 v9 (acc.take (0) ++ f :: acc.drop (0)).length ((acc.take (0) ++ f :: acc.drop (0)).flatMap Fld.enc) := hown9.cast (by rw [hl9]; omega) (by simp)
                have HN := Lib.hid (HS.out.1 _ HP.out)
                have HO2 := Lib.hid (HOF.out _ HP.out).1
                have HR2 := Lib.hid (HOF.out _ HP.out).2
                have hl2 : (acc.take (0) ++ f :: acc.drop (0)).length ≤ 8 * k + (m + 1) := by omega
                go_roundw
                case rel => exact ⟨m + 1, _, by omega, by go_num, hby9, ho9, hl2, HO2, HR2, HN⟩
                case measure => simp [intOf]; omega
              · injection hv0 with hA _ hc'
                subst hA
                clear hc'
                go_wp2_with fail
                go_quiet (fail)
                go_wp2_with fail
                go_quiet (fail)
                generalize hx0 : (wr.drewN _).drewN _ = W0
                have hbx0 : Below wr.heap.size wr W0 := by rw [← hx0]; exact Go.below_drewN (Go.below_drewN (Below.refl _ _) _) _
                have hsx : W0.heap.size = wr.heap.size := by rw [← hx0]; rfl
                have hownx := hownr.below hbx0
                clear hx0
                have hws := hby.size
                have hY0 := Lib.hid z0
                have hY1 := Lib.hid z1
                have hY2 := Lib.hid z2
                have hY3 := Lib.hid z3
                go_wp2_with (first
                  | (at_builtin; refine wpList_append_q _ rfl (.tmp 84) (.tmp 87) _ rfl w1.heap.size 61 i0 (.agg #[.string .empty, .int .i64 0, .bool false, .bool false]) 4 32 Tryz.underlying57 ei ez ez1 ez2 rfl (by decide) (.slice none 0 0) 0 [] rfl (Own.nil _ _ _ _) _ (0) _ ((acc.take (0)).flatMap Fld.enc) rfl (by rw [flat_len Fld.enc_len]; simp <;> omega) (fun h => absurd h (by omega)) (oneCell_flat Fld.enc_one _) (by unfold maxLen; omega) (by omega) (by omega) ?_
                     intro v7 w7 hown7 hg7 hat7
                     have hs7 := hg7.size
                     have hb7 : Below wr.heap.size wr w7 := hbx0.grown hg7 (by omega) (fun k e => by cases e)
                     have hB7 : ∀ k, v7.ownBlock = some k → k = wr.heap.size := fun k e => by
                       rcases hat7 with h | h
                       · rw [h] at e; cases e
                       · rw [h] at e; injection e with e; omega
                     have x0 := cell_below hb7 hY0.out
                     have x1 := cell_below hb7 hY1.out
                     have x2 := cell_below hb7 hY2.out
                     have x3 := cell_below hb7 hY3.out
                     have hsw7 := hb7.size)
                  | (at_builtin; refine wpList_append_q _ rfl (.tmp 89) (.tmp 94) _ rfl w1.heap.size 61 i0 (.agg #[.string .empty, .int .i64 0, .bool false, .bool false]) 4 32 Tryz.underlying57 ei ez ez1 ez2 rfl (by decide) v7 (0 + (0)) ([] ++ (acc.take (0)).flatMap Fld.enc) rfl (hown7.alloc _) _ 1 1 f.enc rfl rfl (fun _ => ⟨_, rfl, read_new f⟩) f.enc_one (by unfold maxLen; omega) (by omega) (by simp; omega) ?_
                     intro v8 w8 hown8 hg8 hat8
                     have hs8 := hg8.size
                     have hb8 : Below wr.heap.size wr w8 := (hb7.alloc hb7.size _).grown hg8 (by simp at hs8 ⊢; omega) (fun k e => by rw [hB7 k e]; exact Nat.le_refl _)
                     have hsw8 := hb8.size
                     have hown8a := hownr.below hb8)
                  | (at_builtin; refine wpList_append_q _ rfl (.tmp 96) (.tmp 99) _ rfl w1.heap.size 61 i0 (.agg #[.string .empty, .int .i64 0, .bool false, .bool false]) 4 32 Tryz.underlying57 ei ez ez1 ez2 rfl (by decide) v8 (0 + (0) + 1) ([] ++ (acc.take (0)).flatMap Fld.enc ++ f.enc) rfl hown8 _ _ _ ((acc.drop (0)).flatMap Fld.enc) rfl (by rw [flat_len Fld.enc_len]; simp <;> omega) (fun h => ⟨⟨bo, oo + 0 * 4, none⟩, by simp, read_drop hown8a (by omega)⟩) (oneCell_flat Fld.enc_one _) (by unfold maxLen; omega) (by omega) (by omega) ?_
                     intro v9 w9 hown9 hg9 hat9))
                have hb9 : Below wr.heap.size wr w9 := hb8.grown hg9 (by have := hg9.size; omega) (fun k e => by
                  rcases hat8 with h | h
                  · rw [h] at e; rw [hB7 k e]; exact Nat.le_refl _
                  · rw [h] at e; injection e with e; simp at e; omega)
                have hby9 := hby.trans (hb9.mono hby.size)
                have hl9 : (acc.take (0) ++ f :: acc.drop (0)).length = acc.length + 1 := by simp <;> omega
                have ho9 : Own w9 w1.heap.size 61 4 v9 (acc.take (0) ++ f :: acc.drop (0)).length ((acc.take (0) ++ f :: acc.drop (0)).flatMap Fld.enc) := hown9.cast (by rw [hl9]; omega) (by simp)
                have HN := Lib.hid (HS.out.1 _ HP.out)
                have HO2 := Lib.hid (HOF.out _ HP.out).1
                have HR2 := Lib.hid (HOF.out _ HP.out).2
                have hl2 : (acc.take (0) ++ f :: acc.drop (0)).length ≤ 8 * k + (m + 1) := by omega
                go_roundw
                case rel => exact ⟨m + 1, _, by omega, by go_num, hby9, ho9, hl2, HO2, HR2, HN⟩
                case measure => simp [intOf]; omega
            | succ p =>
              obtain rfl : z = (p : Int) + 1 := by omega
              clear hzp
              obtain ⟨q, hq⟩ : ∃ d, acc[p]? = some d := ⟨_, List.getElem?_eq_getElem (by omega)⟩
              obtain ⟨bo, oo, hAo, _, r0, r1, r2, r3⟩ := fld_at (hownr.flds HO.out) hq
              subst hAo
              have hpl : (p : Int) < (acc.length : Int) := by omega
              have hp0 : (0 : Int) < (p : Int) + 1 := by omega
              have hL : Op.bytesLess q.name.toList f.name.toList = decide (fldC f.name q < 0) := ltS_cmp q.name f.name
              have hE : (q.name.toList == f.name.toList) = decide (q.name = f.name) := bytes_beq q.name f.name
              rcases Int.lt_trichotomy (fldC f.name q) 0 with hc | hc | hc
              · have hqf : ¬ q.name = f.name := fun e => by unfold fldC at hc; rw [cmpS_zero.2 e] at hc; omega
                rw [decide_eq_true hc] at hL
                rw [decide_eq_false hqf] at hE
                have hE2 : ¬ q.name.toList = f.name.toList := by rw [bytes_eq]; exact hqf
                obtain ⟨HP1, HP2⟩ := low_new HR.out hp HA.out (.inr ⟨q, by simpa using hq, hc⟩)
                have HP := Lib.hid (put_new HP2)
                rw [HP1] at HP
                have hpo : (p : Int) + 1 ≤ (co : Int) := by omega
                have hpl' : (p : Int) + 1 ≤ (acc.length : Int) := by omega
                clear HP1 HP2 hc hqf hq
                go_wp2_with fail
                go_quiet (fail)
                go_wp2_with fail
                go_quiet (fail)
                generalize hx0 : (wr.drewN _).drewN _ = W0
                have hbx0 : Below wr.heap.size wr W0 := by rw [← hx0]; exact Go.below_drewN (Go.below_drewN (Below.refl _ _) _) _
                have hsx : W0.heap.size = wr.heap.size := by rw [← hx0]; rfl
                have hownx := hownr.below hbx0
                clear hx0
                have hws := hby.size
                have hY0 := Lib.hid z0
                have hY1 := Lib.hid z1
                have hY2 := Lib.hid z2
                have hY3 := Lib.hid z3
                go_wp2_with (first
                  | (at_builtin; refine wpList_append_q _ rfl (.tmp 84) (.tmp 87) _ rfl w1.heap.size 61 i0 (.agg #[.string .empty, .int .i64 0, .bool false, .bool false]) 4 32 Tryz.underlying57 ei ez ez1 ez2 rfl (by decide) (.slice none 0 0) 0 [] rfl (Own.nil _ _ _ _) _ (p + 1) _ ((acc.take (p + 1)).flatMap Fld.enc) rfl (by rw [flat_len Fld.enc_len]; simp <;> omega) (fun _ => ⟨_, rfl, read_take hownx (by omega)⟩) (oneCell_flat Fld.enc_one _) (by unfold maxLen; omega) (by omega) (by omega) ?_
                     intro v7 w7 hown7 hg7 hat7
                     have hs7 := hg7.size
                     have hb7 : Below wr.heap.size wr w7 := hbx0.grown hg7 (by omega) (fun k e => by cases e)
                     have hB7 : ∀ k, v7.ownBlock = some k → k = wr.heap.size := fun k e => by
                       rcases hat7 with h | h
                       · rw [h] at e; cases e
                       · rw [h] at e; injection e with e; omega
                     have x0 := cell_below hb7 hY0.out
                     have x1 := cell_below hb7 hY1.out
                     have x2 := cell_below hb7 hY2.out
                     have x3 := cell_below hb7 hY3.out
                     have hsw7 := hb7.size)
                  | (at_builtin; refine wpList_append_q _ rfl (.tmp 89) (.tmp 94) _ rfl w1.heap.size 61 i0 (.agg #[.string .empty, .int .i64 0, .bool false, .bool false]) 4 32 Tryz.underlying57 ei ez ez1 ez2 rfl (by decide) v7 (0 + (p + 1)) ([] ++ (acc.take (p + 1)).flatMap Fld.enc) rfl (hown7.alloc _) _ 1 1 f.enc rfl rfl (fun _ => ⟨_, rfl, read_new f⟩) f.enc_one (by unfold maxLen; omega) (by omega) (by simp; omega) ?_
                     intro v8 w8 hown8 hg8 hat8
                     have hs8 := hg8.size
                     have hb8 : Below wr.heap.size wr w8 := (hb7.alloc hb7.size _).grown hg8 (by simp at hs8 ⊢; omega) (fun k e => by rw [hB7 k e]; exact Nat.le_refl _)
                     have hsw8 := hb8.size
                     have hown8a := hownr.below hb8)
                  | (at_builtin; refine wpList_append_q _ rfl (.tmp 96) (.tmp 99) _ rfl w1.heap.size 61 i0 (.agg #[.string .empty, .int .i64 0, .bool false, .bool false]) 4 32 Tryz.underlying57 ei ez ez1 ez2 rfl (by decide) v8 (0 + (p + 1) + 1) ([] ++ (acc.take (p + 1)).flatMap Fld.enc ++ f.enc) rfl hown8 _ _ _ ((acc.drop (p + 1)).flatMap Fld.enc) rfl (by rw [flat_len Fld.enc_len]; simp <;> omega) (fun h => ⟨⟨bo, oo + (p + 1) * 4, none⟩, by have hne : ¬ co = p + 1 := (by omega); simp [hne], read_drop hown8a (by omega)⟩) (oneCell_flat Fld.enc_one _) (by unfold maxLen; omega) (by omega) (by omega) ?_
                     intro v9 w9 hown9 hg9 hat9))
                have hb9 : Below wr.heap.size wr w9 := hb8.grown hg9 (by have := hg9.size; omega) (fun k e => by
                  rcases hat8 with h | h
                  · rw [h] at e; rw [hB7 k e]; exact Nat.le_refl _
                  · rw [h] at e; injection e with e; simp at e; omega)
                have hby9 := hby.trans (hb9.mono hby.size)
                have hl9 : (acc.take (p + 1) ++ f :: acc.drop (p + 1)).length = acc.length + 1 := by simp <;> omega
                have ho9 : Own w9 w1.heap.size 61 4 v9 (acc.take (p + 1) ++ f :: acc.drop (p + 1)).length ((acc.take (p + 1) ++ f :: acc.drop (p + 1)).flatMap Fld.enc) := hown9.cast (by rw [hl9]; omega) (by simp)
                have HN := Lib.hid (HS.out.1 _ HP.out)
                have HO2 := Lib.hid (HOF.out _ HP.out).1
                have HR2 := Lib.hid (HOF.out _ HP.out).2
                have hl2 : (acc.take (p + 1) ++ f :: acc.drop (p + 1)).length ≤ 8 * k + (m + 1) := by omega
                go_roundw
                case rel => exact ⟨m + 1, _, by omega, by go_num, hby9, ho9, hl2, HO2, HR2, HN⟩
                case measure => simp [intOf]; omega
              · have hqf : q.name = f.name := by unfold fldC at hc; exact cmpS_zero.1 hc
                rw [decide_eq_false (show ¬ fldC f.name q < 0 by omega)] at hL
                rw [decide_eq_true hqf] at hE
                obtain ⟨HP1, HP2⟩ := at_old HR.out hq hqf
                have HP := Lib.hid (put_old HP2 (by rw [HP1]; exact hq))
                have hneq := fld_neq q f
                have hgd := fld_guard
                clear HP1 HP2 hc hqf hq
                by_cases hqq : q = f
                · have hd : decide (q = f) = true := decide_eq_true hqq
                  have HP2 : Hid (putF acc f = some acc) := by unfold Hid; rw [HP.out, if_pos hqq]
                  rw [hd] at hneq
                  have HN := Lib.hid (HS.out.1 _ HP2.out)
                  clear HS HP HP2 HOF hd hqq
                  go_wp2_with fail
                  go_quiet (fail)
                  go_wp2_with fail
                  go_quiet (fail)
                  go_wp2_with fail
                  go_quiet (fail)
                  go_wp2_with fail
                  go_roundw
                  case rel => exact ⟨m + 1, acc, by omega, by go_num, Go.below_drewN hby _, hownr.drewN _, by omega, HO, HR, HN⟩
                  case measure => simp [intOf]; omega
                · have hd : decide (q = f) = false := decide_eq_false hqq
                  have HP2 : Hid (putF acc f = none) := by unfold Hid; rw [HP.out, if_neg hqq]
                  rw [hd] at hneq
                  have HN := Lib.hid (HS.out.2 HP2.out)
                  clear HS HP HP2 HOF hd hqq
                  go_wp2_with fail
                  go_quiet (fail)
                  go_wp2_with fail
                  go_quiet (fail)
                  go_wp2_with fail
                  go_quiet (fail)
                  go_wp2_with fail
                  go_ret2
                  refine ⟨.slice none 0 0, ?_, ?_, Go.below_drewN (Go.below_drewN (Go.below_drewN (hb1.trans (hby.mono hb1.size)) _) _) _⟩
                  · rw [HN.out]; rfl
                  · rw [HN.out]; exact ⟨Own.nil _ _ _ _, fun x hx => by simp at hx⟩
              · have hqf : ¬ q.name = f.name := fun e => by unfold fldC at hc; rw [cmpS_zero.2 e] at hc; omega
                rw [decide_eq_false (show ¬ fldC f.name q < 0 by omega)] at hL
                rw [decide_eq_false hqf] at hE
                have hE2 : ¬ q.name.toList = f.name.toList := by rw [bytes_eq]; exact hqf
                have HN : Hid (∀ i d, p ≤ i → acc[i]? = some d → ltS f.name d.name = true) := fun i d hi hd => by
                  by_cases hip : i = p
                  · subst hip; rw [hq] at hd; injection hd with hd; subst hd; rw [fldC_lt]; exact decide_eq_true hc
                  · exact HA.out i d (by omega) hd
                clear hq hc hqf
                go_wp2_with fail
                go_quiet (fail)
                go_wp2_with fail
                go_roundw
                case rel => exact ⟨p, p, by omega, rfl, by go_num, Go.below_drewN hby _, Go.below_drewN hb3 _, HN⟩
                case measure => simp [intOf]
        · obtain rfl : m = kd.fields.length := by omega
          have HE3 : Hid (fieldsOf l name = ((ks.drop (k + 1)).flatMap (fldsFor l)).foldlM putF acc) := by unfold Hid; rw [HE.out, List.drop_length]; rfl
          clear HE
          go_wp2_with fail
          go_roundw
          case rel => exact ⟨k + 1, acc, by omega, by go_num, hbx, hown, by omega, HO, HR, HE3⟩
          case measure => simp [intOf]; omega
    · obtain rfl : k = ks.length := by omega
      have HQ : Hid (fieldsOf l name = some acc) := by unfold Hid; rw [HE.out, List.drop_length]; rfl
      obtain ⟨Ao, co, rfl, _, _⟩ := hown.form
      go_wp2_with fail
      go_ret2
      refine ⟨.slice Ao acc.length co, ?_, ?_, hb1.trans (hbr.mono hb1.size)⟩
      · rw [HQ.out]; rfl
      · rw [HQ.out]; exact ⟨hown.mono hb1.size, HO.out⟩
theorem rfields_any (l : List Knd) (name : ByteArray) (v : Value) (w : World) (hv : Sl kndL w v l) (hw : Wf l) (hn : 0 ≤ kFind l name) (hll : l.length ≤ 12) (hfl : ∀ k ∈ l, k.fields.length ≤ 8) :
    Calls Tryz.prog 65 #[v, .string name] w (FieldsR l name w) :=
  (rfieldsO_any l name v w hv hw hn hll hfl).mono fun _ _ ⟨u, h1, h2, h3⟩ => ⟨u, h1, h2.1.flds h2.2, h3⟩

theorem get_take_up {l : List Knd} {i m : Nat} {x : Knd} (h : (l.take i)[m]? = some x) : (l.take (i + 1))[m]? = some x := by
  rw [List.getElem?_take] at h ⊢
  split at h
  · rw [if_pos (by omega)]; exact h
  · cases h
theorem get_take_dn {l : List Knd} {i m : Nat} {x : Knd} (hm : m < i) (h : (l.take (i + 1))[m]? = some x) : (l.take i)[m]? = some x := by
  rw [List.getElem?_take] at h ⊢
  rw [if_pos (by omega)] at h
  rw [if_pos hm]; exact h
theorem wf_snoc {l : List Knd} {i : Nat} {k : Knd} (hw : Wf (l.take i)) (hk : l[i]? = some k) (hnew : kFind (l.take i) k.name < 0) (ho : ofsE (l.take i) [] k.ofs = 0) : Wf (l.take (i + 1)) := by
  intro m x hx
  by_cases hm : m < i
  · obtain ⟨a, b⟩ := hw m x (get_take_dn hm hx)
    refine ⟨fun j y hj hy => a j y hj (get_take_dn (by omega) hy), fun s hs => ?_⟩
    obtain ⟨j, y, h1, h2, h3⟩ := b s hs
    exact ⟨j, y, h1, get_take_up h2, h3⟩
  · have hmi : m = i := by
      have := (List.getElem?_eq_some_iff.1 hx).1
      simp at this; omega
    subst hmi
    have hxk : x = k := by
      rw [List.getElem?_take, if_pos (by omega), hk] at hx
      injection hx with hx; exact hx.symm
    subst hxk
    refine ⟨fun j y hj hy => kFind_neg hnew y (List.mem_of_getElem? (get_take_dn hj hy)), fun s hs => ?_⟩
    obtain ⟨j, y, h1, h2, h3, _⟩ := kFind_pos (ofsE_zero ho s hs)
    have hjl := (List.getElem?_eq_some_iff.1 h2).1
    simp at hjl
    exact ⟨j, y, by omega, get_take_up h2, h3⟩

theorem nameE_two {s : ByteArray} (h : nameE s ≠ 0) : nameE s = 2 := by
  unfold nameE at h ⊢
  split
  · rfl
  · rename_i h1
    rw [if_neg h1] at h
    split
    · rfl
    · rename_i h2
      rw [if_neg h2] at h
      split
      · rfl
      · rename_i h3; rw [if_neg h3] at h; exact absurd rfl h
set_option maxRecDepth 100000 in
set_option maxHeartbeats 4000000 in
theorem rkind1_any (l : List Knd) (i : Nat) (k : Knd) (v : Value) (w : World) (hv : Sl kndL w v l) (hk : l[i]? = some k) (hw : Wf (l.take i)) (hl : l.length ≤ 12) (hfl : ∀ x ∈ l.take i, x.fields.length ≤ 8) :
    Calls Tryz.prog 44 #[v, .int .i64 i] w fun e w' => e = .returned (.int .i64 (oneE (l.take i) k)) ∧ Below w.heap.size w w' := by
  obtain ⟨A, c, rfl, hlc, hcA⟩ := hv.form
  have HV := Lib.hid hv
  have hi : i < l.length := (List.getElem?_eq_some_iff.1 hk).1
  have hi' : (i : Int) < (l.length : Int) := by omega
  have hic : (i : Int) ≤ (c : Int) := by omega
  have htk := hv.take (k := i) (by omega)
  obtain ⟨b, o, rfl, u1, u2, hnm, h1, h2, c0, c1, c2⟩ := knd_at hv hk
  obtain ⟨A1, c1', rfl, _, hc1⟩ := h1.form
  obtain ⟨A2, c2', rfl, _, hc2⟩ := h2.form
  obtain ⟨z0, z1, z2⟩ := cell_box3 w (.string k.name) (.slice A1 k.ofs.length c1') (.slice A2 k.fields.length c2') 59
  have hb0 : Below w.heap.size w (w.alloc (.cells #[.string k.name, .slice A1 k.ofs.length c1', .slice A2 k.fields.length c2'] 59)) := (Below.refl _ _).alloc (Nat.le_refl _) _
  have HK := Lib.hid hk
  have HW := Lib.hid hw
  have HFL := Lib.hid hfl
  clear hfl hw hk hv
  go_enter Tryz.func44, Tryz.ntmps44
  go_wp2_with fail
  refine (rname_any k.name _ hnm).mono ?_
  rintro e w1 ⟨rfl, rfl⟩
  generalize w.alloc (.cells #[.string k.name, .slice A1 k.ofs.length c1', .slice A2 k.fields.length c2'] 59) = W at *
  by_cases hn : nameE k.name = 0
  case neg =>
    have HE : Hid (oneE (l.take i) k = 2) := by unfold Hid oneE; rw [if_neg hn, nameE_two hn]
    rw [nameE_two hn]
    clear hn
    go_wp2_with fail
    go_ret
    exact ⟨by rw [HE.out]; rfl, hb0⟩
  have HE1 : Hid (oneE (l.take i) k = if 0 ≤ kFind (l.take i) k.name then 7 else if 4 < k.ofs.length then 4 else if 8 < k.fields.length then 4 else if ofsE (l.take i) [] k.ofs = 0 then if fldsE none k.fields = 0 then sumE (fieldsOf (l.take i ++ [k]) k.name) else fldsE none k.fields else ofsE (l.take i) [] k.ofs) := by
    unfold Hid oneE; rw [if_pos hn]
  rw [hn]
  clear hn
  go_wp2_with fail
  refine wp_mid_k 5 _ rfl rfl (by kernel_rfl) (by kernel_rfl) ?_
  simp only [List.take_succ_cons, List.take_zero, List.drop_succ_cons, List.drop_zero]
  repeat (go_big_quiet_step (fail))
  refine wpQuiet_nil ?_
  intro _ hw'
  obtain ⟨nq, hw''⟩ := hw'
  subst hw''
  intro K hK
  have hkf := rkind_any (l.take i) k.name _ (W.drewN nq) (htk.below (Go.below_drewN hb0 nq))
  have y0 : (W.drewN nq).cell? ⟨w.heap.size, 0, none⟩ = some (.string k.name) := z0
  have y1 : (W.drewN nq).cell? ⟨w.heap.size, 1, none⟩ = some (.slice A1 k.ofs.length c1') := z1
  have y2 : (W.drewN nq).cell? ⟨w.heap.size, 2, none⟩ = some (.slice A2 k.fields.length c2') := z2
  have hb1 := Go.below_drewN hb0 nq
  go_wp2_with fail
  refine hkf.mono ?_
  clear hkf
  rintro e w1 ⟨rfl, rfl⟩
  clear z0 z1 z2 hb0
  generalize W.drewN nq = W at *
  generalize hzz : kFind (l.take i) k.name = z at *
  have HZ := Lib.hid hzz
  clear hzz
  refine hK _ _ ?_
  repeat (go_big_quiet_step (fail))
  refine wpQuiet_nil ?_
  intro _ hw'
  obtain ⟨nq2, hw''⟩ := hw'
  subst hw''
  clear hK
  have z0 : (W.drewN nq2).cell? ⟨w.heap.size, 0, none⟩ = some (.string k.name) := y0
  have z1 : (W.drewN nq2).cell? ⟨w.heap.size, 1, none⟩ = some (.slice A1 k.ofs.length c1') := y1
  have z2 : (W.drewN nq2).cell? ⟨w.heap.size, 2, none⟩ = some (.slice A2 k.fields.length c2') := y2
  have hb2 := Go.below_drewN hb1 nq2
  clear y0 y1 y2 hb1
  generalize W.drewN nq2 = W at *
  by_cases hz : 0 ≤ z
  case pos =>
    have HE : Hid (oneE (l.take i) k = 7) := by unfold Hid; rw [HE1.out, if_pos hz]
    clear HE1
    go_wp2_with fail
    go_ret
    exact ⟨by rw [HE.out]; rfl, hb2⟩
  have hz' : z < 0 := by omega
  have HNEW : Hid (kFind (l.take i) k.name < 0) := by unfold Hid; rw [HZ.out]; exact hz'
  have HE2 : Hid (oneE (l.take i) k = if 4 < k.ofs.length then 4 else if 8 < k.fields.length then 4 else if ofsE (l.take i) [] k.ofs = 0 then if fldsE none k.fields = 0 then sumE (fieldsOf (l.take i ++ [k]) k.name) else fldsE none k.fields else ofsE (l.take i) [] k.ofs) := by
    unfold Hid; rw [HE1.out, if_neg hz]
  clear HE1 hz
  by_cases h4 : 4 < k.ofs.length
  case pos =>
    have HE : Hid (oneE (l.take i) k = 4) := by unfold Hid; rw [HE2.out, if_pos h4]
    have h4' : (4 : Int) < (k.ofs.length : Int) := by omega
    clear HE2
    go_wp2_with fail
    go_ret
    exact ⟨by rw [HE.out]; rfl, hb2⟩
  have h4' : (k.ofs.length : Int) ≤ 4 := by omega
  by_cases h8 : 8 < k.fields.length
  case pos =>
    have HE : Hid (oneE (l.take i) k = 4) := by unfold Hid; rw [HE2.out, if_neg h4, if_pos h8]
    have h8' : (8 : Int) < (k.fields.length : Int) := by omega
    clear HE2
    go_wp2_with fail
    go_ret
    exact ⟨by rw [HE.out]; rfl, hb2⟩
  have h8' : (k.fields.length : Int) ≤ 8 := by omega
  have HE3 : Hid (oneE (l.take i) k = if ofsE (l.take i) [] k.ofs = 0 then if fldsE none k.fields = 0 then sumE (fieldsOf (l.take i ++ [k]) k.name) else fldsE none k.fields else ofsE (l.take i) [] k.ofs) := by
    unfold Hid; rw [HE2.out, if_neg h4, if_neg h8]
  clear HE2
  go_wp2_with fail
  go_loopw [6] (fun t wr => ∃ j : Nat, j ≤ k.ofs.length ∧ t = .int .i64 j ∧ Below W.heap.size W wr ∧ Hid (ofsE (l.take i) [] k.ofs = ofsE (l.take i) (k.ofs.take j) (k.ofs.drop j))) (fun t _ => k.ofs.length - (intOf t).toNat)
  case atStart => exact ⟨0, Nat.zero_le _, rfl, Below.refl _ _, rfl⟩
  case round =>
    obtain ⟨j, hj, rfl, hbr, HR⟩ := hrel
    have hBr := hb2.trans (hbr.mono hb2.size)
    have r0 := cell_below hbr z0
    have r1 := cell_below hbr z1
    have r2 := cell_below hbr z2
    clear z0 z1 z2
    by_cases hlt : j < k.ofs.length
    · obtain ⟨s, hs⟩ : ∃ s, k.ofs[j]? = some s := ⟨_, List.getElem?_eq_getElem hlt⟩
      obtain ⟨bs, os, rfl, hss, x0⟩ := str_at (h1.below hBr) hs
      have HS := Lib.hid (ofsE_step hs HR.out)
      have hlt' : (j : Int) < (k.ofs.length : Int) := by omega
      have htk1 := h1.take hj
      have hj' : (j : Int) ≤ (c1' : Int) := by omega
      clear hs HR
      go_wp2_with fail
      refine wp_mid_k 8 _ rfl rfl (by kernel_rfl) (by kernel_rfl) ?_
      simp only [List.take_succ_cons, List.take_zero, List.drop_succ_cons, List.drop_zero]
      repeat (go_big_quiet_step (fail))
      refine wpQuiet_nil ?_
      intro _ hw'
      obtain ⟨nq, hw''⟩ := hw'
      subst hw''
      intro K hK
      have hkf := rkind_any (l.take i) s _ (wr.drewN nq) (htk.below (Go.below_drewN hBr nq))
      have y0 : (wr.drewN nq).cell? ⟨w.heap.size, 0, none⟩ = some (.string k.name) := r0
      have y1 : (wr.drewN nq).cell? ⟨w.heap.size, 1, none⟩ = some (.slice (some ⟨bs, os, none⟩) k.ofs.length c1') := r1
      have y2 : (wr.drewN nq).cell? ⟨w.heap.size, 2, none⟩ = some (.slice A2 k.fields.length c2') := r2
      have x1 : (wr.drewN nq).cell? ⟨bs, os + j, none⟩ = some (.string s) := x0
      go_wp2_with fail
      refine hkf.mono ?_
      clear hkf
      rintro e w3 ⟨rfl, rfl⟩
      generalize kFind (l.take i) s = z3 at *
      refine hK _ _ ?_
      repeat (go_big_quiet_step (fail))
      refine wpQuiet_nil ?_
      intro _ hw'
      obtain ⟨nq2, hw''⟩ := hw'
      subst hw''
      clear hK
      by_cases hz2 : z3 < 0
      · have HE : Hid (oneE (l.take i) k = 5) := by unfold Hid; rw [HE3.out, HS.out, if_pos hz2, if_neg (by omega)]
        clear HE3 HS
        go_wp2_with fail
        go_ret
        exact ⟨by rw [HE.out]; rfl, Go.below_drewN (Go.below_drewN hBr _) _⟩
      · have hz3 : 0 ≤ z3 := by omega
        have HS2 : Hid (ofsE (l.take i) [] k.ofs = if (k.ofs.take j).any (fun y => decide (s = y)) then 7 else ofsE (l.take i) (k.ofs.take (j + 1)) (k.ofs.drop (j + 1))) := by unfold Hid; rw [HS.out, if_neg hz2]
        clear HS hz2
        generalize hWx : (wr.drewN nq).drewN nq2 = Wx at *
        have hbx : Below W.heap.size W Wx := by rw [← hWx]; exact Go.below_drewN (Go.below_drewN hbr _) _
        have hBx : Below w.heap.size w Wx := by rw [← hWx]; exact Go.below_drewN (Go.below_drewN hBr _) _
        have s0 : Wx.cell? ⟨w.heap.size, 0, none⟩ = some (.string k.name) := by rw [← hWx]; exact r0
        have s1 : Wx.cell? ⟨w.heap.size, 1, none⟩ = some (.slice (some ⟨bs, os, none⟩) k.ofs.length c1') := by rw [← hWx]; exact r1
        have s2 : Wx.cell? ⟨w.heap.size, 2, none⟩ = some (.slice A2 k.fields.length c2') := by rw [← hWx]; exact r2
        have s3 : Wx.cell? ⟨bs, os + j, none⟩ = some (.string s) := by rw [← hWx]; exact x0
        clear y0 y1 y2 x1 r0 r1 r2 x0 hWx
        go_wp2_with fail
        refine wp_mid_k 9 _ rfl rfl (by kernel_rfl) (by kernel_rfl) ?_
        simp only [List.take_succ_cons, List.take_zero, List.drop_succ_cons, List.drop_zero]
        repeat (go_big_quiet_step (fail))
        refine wpQuiet_nil ?_
        intro _ hw'
        obtain ⟨nq, hw''⟩ := hw'
        subst hw''
        intro K hK
        have hin := rin_any (k.ofs.take j) s _ (Wx.drewN nq) (htk1.below (Go.below_drewN hBx nq))
        have hlj : (k.ofs.take j).length = j := by simp; omega
        have y0 : (Wx.drewN nq).cell? ⟨w.heap.size, 0, none⟩ = some (.string k.name) := s0
        go_wp2_with fail
        refine hin.mono ?_
        clear hin
        rintro e w4 ⟨rfl, rfl⟩
        generalize hany : (k.ofs.take j).any (fun y => decide (s = y)) = qa at *
        refine hK _ _ ?_
        repeat (go_big_quiet_step (fail))
        refine wpQuiet_nil ?_
        intro _ hw'
        obtain ⟨nq2, hw''⟩ := hw'
        subst hw''
        clear hK
        cases qa with
        | true =>
          have HE : Hid (oneE (l.take i) k = 7) := by unfold Hid; rw [HE3.out, HS2.out, if_pos rfl, if_neg (by omega)]
          clear HE3 HS2 hany
          go_wp2_with fail
          go_ret
          exact ⟨by rw [HE.out]; rfl, Go.below_drewN (Go.below_drewN hBx _) _⟩
        | false =>
          have HN : Hid (ofsE (l.take i) [] k.ofs = ofsE (l.take i) (k.ofs.take (j + 1)) (k.ofs.drop (j + 1))) := by unfold Hid; rw [HS2.out]; simp
          clear HE3 HS2 hany
          go_wp2_with fail
          go_roundw
          case rel => exact ⟨j + 1, by omega, by go_num, Go.below_drewN hbx _, HN⟩
          case measure => simp [intOf]; omega
    · obtain rfl : j = k.ofs.length := by omega
      have HO : Hid (ofsE (l.take i) [] k.ofs = 0) := by unfold Hid; rw [HR.out, List.drop_length]; rfl
      have HE4 : Hid (oneE (l.take i) k = if fldsE none k.fields = 0 then sumE (fieldsOf (l.take i ++ [k]) k.name) else fldsE none k.fields) := by unfold Hid; rw [HE3.out, if_pos HO.out]
      clear HE3 HR
      obtain ⟨w2, rfl⟩ : ∃ w2 : World, w2 = wr := ⟨_, rfl⟩
      clear hbr hb2
      go_wp2_with fail
      go_loopw [8] (fun t wx => ∃ j : Nat, j ≤ k.fields.length ∧ t = .int .i64 j ∧ Below w2.heap.size w2 wx ∧ Hid (fldsE none k.fields = fldsE (prev k.fields j) (k.fields.drop j))) (fun t _ => k.fields.length - (intOf t).toNat)
      case atStart => exact ⟨0, Nat.zero_le _, rfl, Below.refl _ _, rfl⟩
      case round =>
        obtain ⟨j, hj, rfl, hbr, HR⟩ := hrel
        have hBx := hBr.trans (hbr.mono hBr.size)
        have s0 := cell_below hbr r0
        have s1 := cell_below hbr r1
        have s2 := cell_below hbr r2
        clear r0 r1 r2
        by_cases hlt2 : j < k.fields.length
        · obtain ⟨d, hd⟩ : ∃ d, k.fields[j]? = some d := ⟨_, List.getElem?_eq_getElem hlt2⟩
          obtain ⟨bd, od, rfl, hok, x0, x1, x2, x3⟩ := fld_at (h2.below hBx) hd
          obtain ⟨z0, z1, z2, z3⟩ := cell_box4 wr (.string d.name) (.int .i64 d.ty) (.bool d.must) (.bool d.key) 61
          have hbb := hbr.alloc hbr.size (.cells #[.string d.name, .int .i64 d.ty, .bool d.must, .bool d.key] 61)
          have hBb := hBx.alloc hBx.size (.cells #[.string d.name, .int .i64 d.ty, .bool d.must, .bool d.key] 61)
          have hlt' : (j : Int) < (k.fields.length : Int) := by omega
          have HS : Hid (fldsE none k.fields = if fldE (prev k.fields j) d = 0 then fldsE (prev k.fields (j + 1)) (k.fields.drop (j + 1)) else fldE (prev k.fields j) d) := by
            unfold Hid; rw [HR.out, drop_cons hd, fldsE, prev_succ hd]
          have HD := Lib.hid hd
          clear hd HR
          go_wp2_with fail
          refine (rname_any d.name _ hok.1).mono ?_
          rintro e w3 ⟨rfl, rfl⟩
          by_cases hn : nameE d.name = 0
          case neg =>
            have hn2 := nameE_two hn
            have HE : Hid (oneE (l.take i) k = 2) := by
              have h1 : fldE (prev k.fields j) d = nameE d.name := by unfold fldE; rw [if_neg hn]
              unfold Hid; rw [HE4.out, HS.out, h1, if_neg hn, hn2]; rfl
            rw [hn2]
            clear hn hn2 HE4 HS
            go_wp2_with fail
            go_ret
            exact ⟨by rw [HE.out]; rfl, hBb⟩
          have HQ : Hid (fldE (prev k.fields j) d = if tyB d.ty then (if d.key && !d.must then 3 else match prev k.fields j with | some q => (if ltS q.name d.name then 0 else 7) | none => 0) else 8) := by
            unfold Hid fldE; rw [if_pos hn]; rfl
          rw [hn]
          clear hn
          by_cases ht : tyB d.ty = true
          case neg =>
            have HE : Hid (oneE (l.take i) k = 8) := by
              have h1 : fldE (prev k.fields j) d = 8 := by rw [HQ.out, if_neg ht]
              unfold Hid; rw [HE4.out, HS.out, h1]; rfl
            clear HE4 HS HQ
            have ht2 : d.ty < 1 ∨ 3 < d.ty := by
              unfold tyB at ht; simp at ht; omega
            clear ht
            by_cases hlow : d.ty < 1
            · go_wp2_with fail
              go_ret
              exact ⟨by rw [HE.out]; rfl, hBb⟩
            · have hlow' : 1 ≤ d.ty := by omega
              have hhi : 3 < d.ty := by omega
              clear ht2
              go_wp2_with fail
              go_ret
              exact ⟨by rw [HE.out]; rfl, hBb⟩
          have ht1 : 1 ≤ d.ty := by unfold tyB at ht; simp at ht; omega
          have ht3 : d.ty ≤ 3 := by unfold tyB at ht; simp at ht; omega
          have HQ2 : Hid (fldE (prev k.fields j) d = if d.key && !d.must then 3 else match prev k.fields j with | some q => (if ltS q.name d.name then 0 else 7) | none => 0) := by
            exact HQ.out.trans (if_pos ht)
          clear HQ ht
          cases hK : (d.key && !d.must) with
          | true =>
            have HE : Hid (oneE (l.take i) k = 3) := by
              have h1 : fldE (prev k.fields j) d = 3 := by rw [HQ2.out, hK]; rfl
              unfold Hid; rw [HE4.out, HS.out, h1]; rfl
            clear HQ2 HE4 HS
            have hk1 : d.key = true := by cases h : d.key <;> simp [h] at hK ⊢
            have hk2 : d.must = false := by cases h : d.must <;> simp [h] at hK ⊢
            clear hK
            rw [hk1, hk2] at z0 z1 z2 z3
            rw [hk1, hk2]
            go_wp2_with fail
            go_ret
            exact ⟨by rw [HE.out]; rfl, by rw [hk1, hk2] at hBb; exact hBb⟩
          | false =>
            have HQ3 : Hid (fldE (prev k.fields j) d = match prev k.fields j with | some q => (if ltS q.name d.name then 0 else 7) | none => 0) := by
              unfold Hid; rw [HQ2.out, hK]; rfl
            have hkm : d.key = false ∨ (d.key = true ∧ d.must = true) := by cases h : d.key <;> simp [h] at hK ⊢; exact hK
            clear HQ2 hK
            by_cases h0 : j = 0
            · subst h0
              have HN : Hid (fldsE none k.fields = fldsE (prev k.fields (0 + 1)) (k.fields.drop (0 + 1))) := by unfold Hid; rw [HS.out, HQ3.out]; rfl
              clear HQ3 HS HE4
              rcases hkm with hk1 | ⟨hk1, hk2⟩
              · rw [hk1] at z0 z1 z2 z3 hbb
                rw [hk1]
                go_wp2_with fail
                go_quiet (fail)
                go_wp2_with fail
                go_roundw
                case rel => exact ⟨1, by omega, by go_num, Go.below_drewN hbb _, HN⟩
                case measure => simp [intOf]; omega
              · rw [hk1, hk2] at z0 z1 z2 z3 hbb
                rw [hk1, hk2]
                go_wp2_with fail
                go_quiet (fail)
                go_wp2_with fail
                go_roundw
                case rel => exact ⟨1, by omega, by go_num, Go.below_drewN hbb _, HN⟩
                case measure => simp [intOf]; omega
            · obtain ⟨m, rfl⟩ : ∃ m, j = m + 1 := ⟨j - 1, by omega⟩
              obtain ⟨q, hq⟩ : ∃ q, k.fields[m]? = some q := ⟨_, List.getElem?_eq_getElem (by omega)⟩
              have hm1 : ((m + 1 : Nat) : Int) - 1 = (m : Int) := by omega
              have hm2 : (0 : Int) < ((m + 1 : Nat) : Int) := by omega
              have hm3 : (m : Int) < (k.fields.length : Int) := by omega
              have hpv : prev k.fields (m + 1) = some q := hq
              obtain ⟨b', o', hA', _, y0, _⟩ := fld_at (h2.below hBx) hq
              injection hA' with e5
              injection e5 with e6 e7
              subst e6; subst e7
              have hltS : ltS q.name d.name = decide (0 < cmpS d.name q.name) := by
                rw [ltS_cmp, cmpS_anti d.name q.name]; congr 1; apply propext; omega
              have hL : Op.bytesLess d.name.toList q.name.toList = decide (cmpS d.name q.name < 0) := ltS_cmp d.name q.name
              have hE : (d.name.toList == q.name.toList) = decide (d.name = q.name) := bytes_beq d.name q.name
              have y1 := cell_below ((Below.refl _ _).alloc (Nat.le_refl _) (.cells #[.string d.name, .int .i64 d.ty, .bool d.must, .bool d.key] 61)) y0
              have t2 := cell_below ((Below.refl _ _).alloc (Nat.le_refl _) (.cells #[.string d.name, .int .i64 d.ty, .bool d.must, .bool d.key] 61)) s2
              rcases Int.lt_trichotomy (cmpS d.name q.name) 0 with hc | hc | hc
              · have hqf : ¬ d.name = q.name := fun e => by rw [cmpS_zero.2 e] at hc; omega
                have HE : Hid (oneE (l.take i) k = 7) := by
                  have h1 : fldE (prev k.fields (m + 1)) d = 7 := by rw [HQ3.out, hpv]; simp only; rw [hltS, decide_eq_false (by omega)]; rfl
                  unfold Hid; rw [HE4.out, HS.out, h1]; rfl
                rw [decide_eq_true hc] at hL
                rw [decide_eq_false hqf] at hE
                have hE2 : ¬ d.name.toList = q.name.toList := by rw [bytes_eq]; exact hqf
                clear HQ3 HS hq hpv hltS hc hqf HE4
                rcases hkm with hk1 | ⟨hk1, hk2⟩
                · rw [hk1] at z0 z1 z2 z3 hbb y1 t2 hBb
                  rw [hk1]
                  go_wp2_with fail
                  go_quiet (fail)
                  go_wp2_with fail
                  go_ret
                  exact ⟨by rw [HE.out]; rfl, Go.below_drewN hBb _⟩
                · rw [hk1, hk2] at z0 z1 z2 z3 hbb y1 t2 hBb
                  rw [hk1, hk2]
                  go_wp2_with fail
                  go_quiet (fail)
                  go_wp2_with fail
                  go_ret
                  exact ⟨by rw [HE.out]; rfl, Go.below_drewN hBb _⟩
              · have hqf : d.name = q.name := cmpS_zero.1 hc
                have HE : Hid (oneE (l.take i) k = 7) := by
                  have h1 : fldE (prev k.fields (m + 1)) d = 7 := by rw [HQ3.out, hpv]; simp only; rw [hltS, decide_eq_false (by omega)]; rfl
                  unfold Hid; rw [HE4.out, HS.out, h1]; rfl
                rw [decide_eq_false (show ¬ cmpS d.name q.name < 0 by omega)] at hL
                rw [decide_eq_true hqf] at hE
                have hE2 : d.name.toList = q.name.toList := by rw [bytes_eq]; exact hqf
                clear HQ3 HS hq hpv hltS hc hqf HE4
                rcases hkm with hk1 | ⟨hk1, hk2⟩
                · rw [hk1] at z0 z1 z2 z3 hbb y1 t2 hBb
                  rw [hk1]
                  go_wp2_with fail
                  go_quiet (fail)
                  go_wp2_with fail
                  go_ret
                  exact ⟨by rw [HE.out]; rfl, Go.below_drewN hBb _⟩
                · rw [hk1, hk2] at z0 z1 z2 z3 hbb y1 t2 hBb
                  rw [hk1, hk2]
                  go_wp2_with fail
                  go_quiet (fail)
                  go_wp2_with fail
                  go_ret
                  exact ⟨by rw [HE.out]; rfl, Go.below_drewN hBb _⟩
              · have hqf : ¬ d.name = q.name := fun e => by rw [cmpS_zero.2 e] at hc; omega
                have HN : Hid (fldsE none k.fields = fldsE (prev k.fields (m + 1 + 1)) (k.fields.drop (m + 1 + 1))) := by
                  have h1 : fldE (prev k.fields (m + 1)) d = 0 := by rw [HQ3.out, hpv]; simp only; rw [hltS, decide_eq_true hc]; rfl
                  unfold Hid; rw [HS.out, h1]; rfl
                rw [decide_eq_false (show ¬ cmpS d.name q.name < 0 by omega)] at hL
                rw [decide_eq_false hqf] at hE
                have hE2 : ¬ d.name.toList = q.name.toList := by rw [bytes_eq]; exact hqf
                clear HQ3 HS hq hpv hltS hc hqf HE4
                rcases hkm with hk1 | ⟨hk1, hk2⟩
                · rw [hk1] at z0 z1 z2 z3 hbb y1 t2
                  rw [hk1]
                  go_wp2_with fail
                  go_quiet (fail)
                  go_wp2_with fail
                  go_roundw
                  case rel => exact ⟨m + 1 + 1, by omega, by go_num, Go.below_drewN hbb _, HN⟩
                  case measure => simp [intOf]; omega
                · rw [hk1, hk2] at z0 z1 z2 z3 hbb y1 t2
                  rw [hk1, hk2]
                  go_wp2_with fail
                  go_quiet (fail)
                  go_wp2_with fail
                  go_roundw
                  case rel => exact ⟨m + 1 + 1, by omega, by go_num, Go.below_drewN hbb _, HN⟩
                  case measure => simp [intOf]; omega
        · obtain rfl : j = k.fields.length := by omega
          have HOf : Hid (fldsE none k.fields = 0) := by unfold Hid; rw [HR.out, List.drop_length]; rfl
          have HE5 : Hid (oneE (l.take i) k = sumE (fieldsOf (l.take i ++ [k]) k.name)) := by unfold Hid; rw [HE4.out, if_pos HOf.out]
          clear HE4 HOf HR
          have HW2 := Lib.hid (wf_snoc HW.out HK.out HNEW.out HO.out)
          have HT := Lib.hid (take_step HK.out)
          have hic2 : (i : Int) + 1 ≤ (c : Int) := by omega
          have htk2 := HV.out.take (k := i + 1) (by omega)
          go_wp2_with fail
          refine wp_mid_k 6 _ rfl rfl (by kernel_rfl) (by kernel_rfl) ?_
          simp only [List.take_succ_cons, List.take_zero, List.drop_succ_cons, List.drop_zero]
          repeat (go_big_quiet_step (fail))
          refine wpQuiet_nil ?_
          intro _ hw'
          obtain ⟨nq, hw''⟩ := hw'
          subst hw''
          intro K hK
          have hin := rfields_any (l.take (i + 1)) k.name _ (wr.drewN nq) (htk2.below (Go.below_drewN hBx nq)) HW2.out (kFind_mem (k := k) (by rw [HT.out]; simp)) (by simp; omega) (by
            intro x hx
            rw [HT.out] at hx
            rcases List.mem_append.1 hx with h | h
            · exact HFL.out x h
            · simp at h; subst h; omega)
          have y0 : (wr.drewN nq).cell? ⟨w.heap.size, 0, none⟩ = some (.string k.name) := s0
          rw [← HT.out] at HE5
          go_wp2_with fail
          refine hin.mono ?_
          clear hin
          rintro e w5 ⟨u, rfl, hu, hb5⟩
          have hB5 := (Go.below_drewN hBx nq).trans (hb5.mono (Go.below_drewN hBx nq).size)
          cases hfo : fieldsOf (l.take (i + 1)) k.name with
          | none =>
            have HE : Hid (oneE (l.take i) k = 7) := by unfold Hid; rw [HE5.out, hfo]; rfl
            rw [hfo] at hu
            obtain ⟨A5, c5, rfl, _, _⟩ := hu.form
            clear hfo HE5 hu
            refine hK _ _ ?_
            repeat (go_big_quiet_step (fail))
            refine wpQuiet_nil ?_
            intro _ hw'
            obtain ⟨nq2, hw''⟩ := hw'
            subst hw''
            clear hK
            go_wp2_with fail
            go_ret
            exact ⟨by rw [HE.out]; rfl, Go.below_drewN hB5 _⟩
          | some fs =>
            have HE6 : Hid (oneE (l.take i) k = if 8 < fs.length then 4 else 0) := by unfold Hid; rw [HE5.out, hfo]; rfl
            rw [hfo] at hu
            have hu2 : Sl fldL w5 u fs := hu
            obtain ⟨A5, c5, rfl, _, _⟩ := hu2.form
            clear hfo HE5 hu hu2
            refine hK _ _ ?_
            repeat (go_big_quiet_step (fail))
            refine wpQuiet_nil ?_
            intro _ hw'
            obtain ⟨nq2, hw''⟩ := hw'
            subst hw''
            clear hK
            by_cases h9 : 8 < fs.length
            · have HE : Hid (oneE (l.take i) k = 4) := by unfold Hid; rw [HE6.out, if_pos h9]
              have h9' : (8 : Int) < (fs.length : Int) := by omega
              clear HE6
              go_wp2_with fail
              go_ret
              exact ⟨by rw [HE.out]; rfl, Go.below_drewN hB5 _⟩
            · have HE : Hid (oneE (l.take i) k = 0) := by unfold Hid; rw [HE6.out, if_neg h9]
              have h9' : (fs.length : Int) ≤ 8 := by omega
              clear HE6
              go_wp2_with fail
              go_ret
              exact ⟨by rw [HE.out]; rfl, Go.below_drewN hB5 _⟩

end Go.Proofs.YtfeccicogcnhcaaGreatDoor
