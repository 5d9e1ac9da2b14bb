/- Parts: RefE, SamS, Qg. -/
import Derived.Test.YthefofclbepkoaaDoorMg15
import Derived.Test.YthefofclbepkoaaDoorMg07
import Derived.Test.YthefofclbepkoaaDoorMg14
import Derived.Test.YthefofclbepkoaaDoorMg03
import Derived.Deep.DeepCutAuto
import Derived.Test.YthefofclbepkoaaDoorMg05
/- Contract of the references: kinref1.Fields. -/
namespace Go.Proofs.YthefofclbepkoaaDoor
open Go Go.RowKit

theorem fldC_lt (f d : Fld) : ltS f.name d.name = decide (0 < fldC f.name d) := by
  rw [ltS_cmp]
  unfold fldC
  rw [cmpS_anti d.name f.name]
  congr 1
  apply propext
  omega
/-- Where all from t on are greater, and the one ahead of it is not. -/
theorem low_new {acc : List Fld} {f : Fld} {t : Nat} (hr : Rise acc) (ht : t ≤ acc.length) (hA : ∀ i d, t ≤ i → acc[i]? = some d → ltS f.name d.name = true) (hB : t = 0 ∨ ∃ d, acc[t - 1]? = some d ∧ fldC f.name d < 0) :
    lowI (fldC f.name) acc = t ∧ eqAt (fldC f.name) acc (lowI (fldC f.name) acc) = false := by
  have hle := lowI_le (fldC f.name) acc
  have e : lowI (fldC f.name) acc = t := by
    rcases Nat.lt_trichotomy (lowI (fldC f.name) acc) t with h | h | h
    · exfalso
      rcases hB with h0 | ⟨d, hd, hc⟩
      · omega
      · have := low_ge (rise_chain hr) (fldC_mono f.name) (show lowI (fldC f.name) acc ≤ t - 1 by omega) hd
        omega
    · exact h
    · exfalso
      have hl : t < acc.length := by omega
      have h1 := low_lt h (List.getElem?_eq_getElem hl)
      have h2 := hA t _ (Nat.le_refl _) (List.getElem?_eq_getElem hl)
      rw [fldC_lt] at h2
      simp at h2
      omega
  refine ⟨e, ?_⟩
  rw [e]
  unfold eqAt
  cases hd : acc[t]? with
  | none => rfl
  | some d =>
    have h2 := hA t d (Nat.le_refl _) hd
    rw [fldC_lt] at h2
    simp at h2 ⊢
    omega
theorem at_old {acc : List Fld} {f q : Fld} {t : Nat} (hr : Rise acc) (ht : acc[t]? = some q) (hq : q.name = f.name) :
    lowI (fldC f.name) acc = t ∧ eqAt (fldC f.name) acc (lowI (fldC f.name) acc) = true := by
  have hc : fldC f.name q = 0 := by unfold fldC; rw [hq]; exact cmpS_zero.2 rfl
  have hl := (List.getElem?_eq_some_iff.1 ht).1
  have e : lowI (fldC f.name) acc = t := by
    rcases Nat.lt_trichotomy (lowI (fldC f.name) acc) t with h | h | h
    · exfalso
      have h1 := low_ge (rise_chain hr) (fldC_mono f.name) (Nat.le_refl (lowI (fldC f.name) acc)) (List.getElem?_eq_getElem (l := acc) (i := lowI (fldC f.name) acc) (by omega))
      have h2 := List.pairwise_iff_getElem.1 hr _ t (by omega) hl h
      obtain ⟨_, e2⟩ := List.getElem?_eq_some_iff.1 ht
      rw [e2, hq] at h2
      have h3 : 0 ≤ cmpS (acc[lowI (fldC f.name) acc]'(by omega)).name f.name := h1
      omega
    · exact h
    · exfalso
      have := low_lt h ht
      omega
  refine ⟨e, ?_⟩
  rw [e]
  unfold eqAt
  rw [ht]
  simp [hc]
theorem fldT_info : (Tryd.prog.info? 80).map (fun i => (i.zero, i.size, i.bytes)) = some (some (.agg #[.string .empty, .int .i64 0, .bool false, .bool false]), 4, 32) := by kernel_rfl
theorem read_take {w : World} {B bo oo co t : Nat} {e : TypeId} {acc : List Fld} (h : Own w B e 4 (.slice (some ⟨bo, oo, none⟩) acc.length co) acc.length (acc.flatMap Fld.enc)) (ht : t ≤ acc.length) :
    ∀ j u, ((acc.take t).flatMap Fld.enc)[j]? = some u → w.cell? ((⟨bo, oo, none⟩ : Addr).add j) = some u := by
  intro j u hj
  rw [addr_add]
  refine h.cell rfl ?_
  rw [← flat_take Fld.enc_len acc t ht, List.getElem?_take] at hj
  split at hj
  · exact hj
  · cases hj
theorem read_drop {w : World} {B bo oo co t : Nat} {e : TypeId} {acc : List Fld} (h : Own w B e 4 (.slice (some ⟨bo, oo, none⟩) acc.length co) acc.length (acc.flatMap Fld.enc)) (ht : t ≤ acc.length) :
    ∀ j u, ((acc.drop t).flatMap Fld.enc)[j]? = some u → w.cell? ((⟨bo, oo + t * 4, none⟩ : Addr).add j) = some u := by
  intro j u hj
  rw [addr_add, Nat.add_assoc]
  refine h.cell rfl ?_
  rw [← flat_drop Fld.enc_len acc t ht, List.getElem?_drop] at hj
  exact hj
theorem read_new {w : World} {e : TypeId} (f : Fld) : ∀ j u, f.enc[j]? = some u → (w.alloc (.cells #[.string f.name, .int .i64 f.ty, .bool f.must, .bool f.key] e)).cell? ((⟨w.heap.size, 0, none⟩ : Addr).add j) = some u := by
  intro j u hj
  rw [addr_add, Nat.zero_add, World.cell?_alloc_at _ _ _ _ rfl]
  simpa [Fld.enc] using hj
theorem Own.cast {w : World} {B : Nat} {e : TypeId} {sz : Nat} {v : Value} {n n' : Nat} {xs xs' : List Value} (h : Own w B e sz v n xs) (hn : n = n') (hx : xs = xs') : Own w B e sz v n' xs' := by subst hn; subst hx; exact h
set_option maxRecDepth 100000 in
set_option maxHeartbeats 8000000 in
theorem rfields_any (l : List Knd) (name : ByteArray) (v : Value) (w : World) (hv : Sl kndL w v l) (hw : Wf l) (hn : 0 ≤ kFind l name) (hll : l.length ≤ 12) (hfl : ∀ k ∈ l, k.fields.length ≤ 8) :
    Calls Tryd.prog 119 #[v, .string name] w (FieldsR l name w) := by
  obtain ⟨i0, ei, ez, ez1, ez2⟩ := info_parts fldT_info
  obtain ⟨A, c, rfl, _, _⟩ := hv.form
  have HV := Lib.hid hv
  have HFL := Lib.hid hfl
  have hkc := rkin_any l name _ w hv hw hn hll
  have HM : Hid (∀ s ∈ kinL l name, ∃ (i : Nat) (k : Knd), kFind l s = i ∧ l[i]? = some k ∧ fldsFor l s = k.fields) := kin_known
  have HF : Hid (fieldsOf l name = (((kinL l name).drop 0).flatMap (fldsFor l)).foldlM putF []) := by unfold Hid; rw [fieldsOf_eq, List.drop_zero]; rfl
  have hkl := kinL_len l name
  clear hv hfl hw hn
  go_enter Tryd.func119, Tryd.ntmps119
  go_wp2_with fail
  refine hkc.mono ?_
  clear hkc
  rintro e w1 ⟨kv, rfl, hks, hb1⟩
  generalize kinL l name = ks at *
  obtain ⟨Ak, ck, rfl, _, _⟩ := hks.form
  have hks13 : (ks.length : Int) ≤ 12 := by omega
  go_wp2_with fail
  go_loopw [6, 8] (fun ov i wr => ∃ (k : Nat) (acc : List Fld), k ≤ ks.length ∧ i = .int .i64 k ∧ Below w1.heap.size w1 wr ∧ Own wr w1.heap.size 80 4 ov acc.length (acc.flatMap Fld.enc) ∧ acc.length ≤ 8 * k ∧
    Hid (∀ x ∈ acc, x.ok) ∧ Hid (Rise acc) ∧ Hid (fieldsOf l name = ((ks.drop k).flatMap (fldsFor l)).foldlM putF acc)) (fun _ i _ => ks.length - (intOf i).toNat)
  case atStart => exact ⟨0, [], Nat.zero_le _, rfl, Below.refl _ _, Own.nil _ _ _ _, Nat.le_refl _, (by intro x hx; simp at hx), List.Pairwise.nil, HF⟩
  case round =>
    obtain ⟨k, acc, hk, rfl, hbr, hown, hacc, HO, HR, HE⟩ := hrel
    by_cases hlt : k < ks.length
    · obtain ⟨s, hs⟩ : ∃ s, ks[k]? = some s := ⟨_, List.getElem?_eq_getElem hlt⟩
      obtain ⟨idx, kd, hidx, hkd, hfs⟩ := HM.out s (List.mem_of_getElem? hs)
      have HE2 : Hid (fieldsOf l name = (kd.fields ++ (ks.drop (k + 1)).flatMap (fldsFor l)).foldlM putF acc) := by
        unfold Hid; rw [HE.out, drop_cons hs, List.flatMap_cons, hfs]
      obtain ⟨bk, ok, rfl, hss, x0⟩ := str_at (hks.below hbr) hs
      have hbwr := hb1.trans (hbr.mono hb1.size)
      have hc := rkind_any l s _ wr (HV.out.below hbwr)
      rw [hidx] at hc
      have hkf : kd.fields.length ≤ 8 := HFL.out kd (List.mem_of_getElem? hkd)
      have hil : idx < l.length := (List.getElem?_eq_some_iff.1 hkd).1
      have hil' : (idx : Int) < (l.length : Int) := by omega
      have hlt' : (k : Int) < (ks.length : Int) := by omega
      obtain ⟨bl, ol, rfl, u, x, _, _, hfx, _, _, c2w⟩ := knd_at HV.out hkd
      have c2 := cell_below hbwr c2w
      obtain ⟨Af, cf, rfl, hfc, _⟩ := hfx.form
      have HKS := Lib.hid hks
      clear HE hs hidx hfs hkd hks hkl c2w
      go_wp2_with fail
      refine hc.mono ?_
      clear hc
      rintro e w2 ⟨rfl, rfl⟩
      clear x0
      go_wp2_with fail
      clear c2
      go_loopw [6, 10] (fun ov j wx => ∃ (m : Nat) (acc : List Fld), m ≤ kd.fields.length ∧ j = .int .i64 m ∧ Below w1.heap.size w1 wx ∧ Own wx w1.heap.size 80 4 ov acc.length (acc.flatMap Fld.enc) ∧ acc.length ≤ 8 * k + m ∧
        Hid (∀ x ∈ acc, x.ok) ∧ Hid (Rise acc) ∧ Hid (fieldsOf l name = (kd.fields.drop m ++ (ks.drop (k + 1)).flatMap (fldsFor l)).foldlM putF acc)) (fun _ j _ => kd.fields.length - (intOf j).toNat)
      case atStart => exact ⟨0, acc, Nat.zero_le _, rfl, hbr, hown, hacc, HO, HR, by unfold Hid; rw [List.drop_zero]; exact HE2.out⟩
      case round =>
        clear hacc HO HR HE2 hown hbr hbwr
        obtain ⟨m, acc, hm, rfl, hbx, hown, hacc, HO, HR, HE⟩ := hrel
        obtain ⟨Ao, co, rfl, hoc, hom⟩ := hown.form
        have hbwx := hb1.trans (hbx.mono hb1.size)
        obtain ⟨w3, rfl⟩ : ∃ w3 : World, w3 = wr := ⟨_, rfl⟩
        by_cases hm2 : m < kd.fields.length
        · obtain ⟨f, hf⟩ : ∃ f, kd.fields[m]? = some f := ⟨_, List.getElem?_eq_getElem hm2⟩
          obtain ⟨bf, of, rfl, hok, y0, y1, y2, y3⟩ := fld_at (hfx.below hbwx) hf
          have HE3 : Hid (fieldsOf l name = (f :: (kd.fields.drop (m + 1) ++ (ks.drop (k + 1)).flatMap (fldsFor l))).foldlM putF acc) := by
            unfold Hid; rw [HE.out, drop_cons hf]; rfl
          have HS := Lib.hid (fold_step HE3.out)
          have hm2' : (m : Int) < (kd.fields.length : Int) := by omega
          have hm8 : (m : Int) ≤ 8 := by omega
          have hacc' : (acc.length : Int) ≤ 1000 := by omega
          have hokf : ∀ x ∈ acc, x.ok := HO.out
          have HOF : Hid (∀ acc', putF acc f = some acc' → (∀ x ∈ acc', x.ok) ∧ Rise acc') := fun acc' he =>
            ⟨fun x hx => by rcases (mem_putF he x).1 hx with h | rfl; exact hokf x h; exact hok, putF_rise HR.out he⟩
          clear hokf hf HE HE3
          go_wp2_with fail
          go_loopw [11] (fun t wx => ∃ (z : Int) (p : Nat), p ≤ acc.length ∧ z = p ∧ t = .int .i64 z ∧ Below w1.heap.size w1 wx ∧ Below w3.heap.size w3 wx ∧ Hid (∀ i d, p ≤ i → acc[i]? = some d → ltS f.name d.name = true)) (fun t _ => (intOf t).toNat)
          case atStart => exact ⟨acc.length, acc.length, Nat.le_refl _, rfl, rfl, hbx, Below.refl _ _, fun i d hi hd => by rw [List.getElem?_eq_none hi] at hd; cases hd⟩
          case round =>
            obtain ⟨z, p, hp, hzp, rfl, hby, hb3, HA⟩ := hrel
            have z0 := cell_below hb3 y0
            have z1 := cell_below hb3 y1
            have z2 := cell_below hb3 y2
            have z3 := cell_below hb3 y3
            have hownr := hown.below hb3
            clear y0 y1 y2 y3
            cases p with
            | zero =>
              obtain rfl : z = 0 := by omega
              clear hzp
              have hz0 : ¬ ((0 : Int) < 0) := by omega
              obtain ⟨HP1, HP2⟩ := low_new HR.out hp HA.out (.inl rfl)
              have HP := Lib.hid (put_new HP2)
              rw [HP1] at HP
              clear HP1 HP2
              rcases hown.2 with ⟨hv0, h0⟩ | ⟨bo, oo, cap, cur, hv0, _⟩
              · injection hv0 with hA _ hc'
                subst hA; subst hc'
                go_wp2_with fail
                go_quiet (fail)
                go_wp2_with fail
                go_quiet (fail)
                generalize hx0 : (wr.drewN _).drewN _ = W0
                have hbx0 : Below wr.heap.size wr W0 := by rw [← hx0]; exact below_drewN (below_drewN (Below.refl _ _) _) _
                have hsx : W0.heap.size = wr.heap.size := by rw [← hx0]; rfl
                have hownx := hownr.below hbx0
                clear hx0
                have hws := hby.size
                have hY0 := Lib.hid z0
                have hY1 := Lib.hid z1
                have hY2 := Lib.hid z2
                have hY3 := Lib.hid z3
                go_wp2_with (first
                  | (at_builtin; refine wpList_append_q _ rfl (.tmp 84) (.tmp 87) _ rfl w1.heap.size 80 i0 (.agg #[.string .empty, .int .i64 0, .bool false, .bool false]) 4 32 Tryd.underlying40 ei ez ez1 ez2 rfl (by decide) (.slice none 0 0) 0 [] rfl (Own.nil _ _ _ _) _ (0) _ ((acc.take (0)).flatMap Fld.enc) rfl (by rw [flat_len Fld.enc_len]; simp <;> omega) (fun h => absurd h (by omega)) (oneCell_flat Fld.enc_one _) (by unfold maxLen; omega) (by omega) (by omega) ?_
                     intro v7 w7 hown7 hg7 hat7
                     have hs7 := hg7.size
                     have hb7 : Below wr.heap.size wr w7 := hbx0.grown hg7 (by omega) (fun k e => by cases e)
                     have hB7 : ∀ k, v7.ownBlock = some k → k = wr.heap.size := fun k e => by
                       rcases hat7 with h | h
                       · rw [h] at e; cases e
                       · rw [h] at e; injection e with e; omega
                     have x0 := cell_below hb7 hY0.out
                     have x1 := cell_below hb7 hY1.out
                     have x2 := cell_below hb7 hY2.out
                     have x3 := cell_below hb7 hY3.out
                     have hsw7 := hb7.size)
                  | (at_builtin; refine wpList_append_q _ rfl (.tmp 89) (.tmp 94) _ rfl w1.heap.size 80 i0 (.agg #[.string .empty, .int .i64 0, .bool false, .bool false]) 4 32 Tryd.underlying40 ei ez ez1 ez2 rfl (by decide) v7 (0 + (0)) ([] ++ (acc.take (0)).flatMap Fld.enc) rfl (hown7.alloc _) _ 1 1 f.enc rfl rfl (fun _ => ⟨_, rfl, read_new f⟩) f.enc_one (by unfold maxLen; omega) (by omega) (by simp; omega) ?_
                     intro v8 w8 hown8 hg8 hat8
                     have hs8 := hg8.size
                     have hb8 : Below wr.heap.size wr w8 := (hb7.alloc hb7.size _).grown hg8 (by simp at hs8 ⊢; omega) (fun k e => by rw [hB7 k e]; exact Nat.le_refl _)
                     have hsw8 := hb8.size
                     have hown8a := hownr.below hb8)
                  | (at_builtin; refine wpList_append_q _ rfl (.tmp 96) (.tmp 99) _ rfl w1.heap.size 80 i0 (.agg #[.string .empty, .int .i64 0, .bool false, .bool false]) 4 32 Tryd.underlying40 ei ez ez1 ez2 rfl (by decide) v8 (0 + (0) + 1) ([] ++ (acc.take (0)).flatMap Fld.enc ++ f.enc) rfl hown8 _ _ _ ((acc.drop (0)).flatMap Fld.enc) rfl (by rw [flat_len Fld.enc_len]; simp <;> omega) (fun h => absurd h (by omega)) (oneCell_flat Fld.enc_one _) (by unfold maxLen; omega) (by omega) (by omega) ?_
                     intro v9 w9 hown9 hg9 hat9))
                have hb9 : Below wr.heap.size wr w9 := hb8.grown hg9 (by have := hg9.size; omega) (fun k e => by
                  rcases hat8 with h | h
                  · rw [h] at e; rw [hB7 k e]; exact Nat.le_refl _
                  · rw [h] at e; injection e with e; simp at e; omega)
                have hby9 := hby.trans (hb9.mono hby.size)
                have hl9 : (acc.take (0) ++ f :: acc.drop (0)).length = acc.length + 1 := by simp <;> omega
                have ho9 : Own w9 w1.heap.size 80 4 v9 (acc.take (0) ++ f :: acc.drop (0)).length ((acc.take (0) ++ f :: acc.drop (0)).flatMap Fld.enc) := hown9.cast (by rw [hl9]; omega) (by simp)
                have HN := Lib.hid (HS.out.1 _ HP.out)
                have HO2 := Lib.hid (HOF.out _ HP.out).1
                have HR2 := Lib.hid (HOF.out _ HP.out).2
                have hl2 : (acc.take (0) ++ f :: acc.drop (0)).length ≤ 8 * k + (m + 1) := by omega
                go_roundw
                case rel => exact ⟨m + 1, _, by omega, by go_num, hby9, ho9, hl2, HO2, HR2, HN⟩
                case measure => simp [intOf]; omega
              · injection hv0 with hA _ hc'
                subst hA
                clear hc'
                go_wp2_with fail
                go_quiet (fail)
                go_wp2_with fail
                go_quiet (fail)
                generalize hx0 : (wr.drewN _).drewN _ = W0
                have hbx0 : Below wr.heap.size wr W0 := by rw [← hx0]; exact below_drewN (below_drewN (Below.refl _ _) _) _
                have hsx : W0.heap.size = wr.heap.size := by rw [← hx0]; rfl
                have hownx := hownr.below hbx0
                clear hx0
                have hws := hby.size
                have hY0 := Lib.hid z0
                have hY1 := Lib.hid z1
                have hY2 := Lib.hid z2
                have hY3 := Lib.hid z3
                go_wp2_with (first
                  | (at_builtin; refine wpList_append_q _ rfl (.tmp 84) (.tmp 87) _ rfl w1.heap.size 80 i0 (.agg #[.string .empty, .int .i64 0, .bool false, .bool false]) 4 32 Tryd.underlying40 ei ez ez1 ez2 rfl (by decide) (.slice none 0 0) 0 [] rfl (Own.nil _ _ _ _) _ (0) _ ((acc.take (0)).flatMap Fld.enc) rfl (by rw [flat_len Fld.enc_len]; simp <;> omega) (fun h => absurd h (by omega)) (oneCell_flat Fld.enc_one _) (by unfold maxLen; omega) (by omega) (by omega) ?_
                     intro v7 w7 hown7 hg7 hat7
                     have hs7 := hg7.size
                     have hb7 : Below wr.heap.size wr w7 := hbx0.grown hg7 (by omega) (fun k e => by cases e)
                     have hB7 : ∀ k, v7.ownBlock = some k → k = wr.heap.size := fun k e => by
                       rcases hat7 with h | h
                       · rw [h] at e; cases e
                       · rw [h] at e; injection e with e; omega
                     have x0 := cell_below hb7 hY0.out
                     have x1 := cell_below hb7 hY1.out
                     have x2 := cell_below hb7 hY2.out
                     have x3 := cell_below hb7 hY3.out
                     have hsw7 := hb7.size)
                  | (at_builtin; refine wpList_append_q _ rfl (.tmp 89) (.tmp 94) _ rfl w1.heap.size 80 i0 (.agg #[.string .empty, .int .i64 0, .bool false, .bool false]) 4 32 Tryd.underlying40 ei ez ez1 ez2 rfl (by decide) v7 (0 + (0)) ([] ++ (acc.take (0)).flatMap Fld.enc) rfl (hown7.alloc _) _ 1 1 f.enc rfl rfl (fun _ => ⟨_, rfl, read_new f⟩) f.enc_one (by unfold maxLen; omega) (by omega) (by simp; omega) ?_
                     intro v8 w8 hown8 hg8 hat8
                     have hs8 := hg8.size
                     have hb8 : Below wr.heap.size wr w8 := (hb7.alloc hb7.size _).grown hg8 (by simp at hs8 ⊢; omega) (fun k e => by rw [hB7 k e]; exact Nat.le_refl _)
                     have hsw8 := hb8.size
                     have hown8a := hownr.below hb8)
                  | (at_builtin; refine wpList_append_q _ rfl (.tmp 96) (.tmp 99) _ rfl w1.heap.size 80 i0 (.agg #[.string .empty, .int .i64 0, .bool false, .bool false]) 4 32 Tryd.underlying40 ei ez ez1 ez2 rfl (by decide) v8 (0 + (0) + 1) ([] ++ (acc.take (0)).flatMap Fld.enc ++ f.enc) rfl hown8 _ _ _ ((acc.drop (0)).flatMap Fld.enc) rfl (by rw [flat_len Fld.enc_len]; simp <;> omega) (fun h => ⟨⟨bo, oo + 0 * 4, none⟩, by have hne : ¬ co = 0 := (by omega); simp [hne, addr_add], read_drop hown8a (by omega)⟩) (oneCell_flat Fld.enc_one _) (by unfold maxLen; omega) (by omega) (by omega) ?_
                     intro v9 w9 hown9 hg9 hat9))
                have hb9 : Below wr.heap.size wr w9 := hb8.grown hg9 (by have := hg9.size; omega) (fun k e => by
                  rcases hat8 with h | h
                  · rw [h] at e; rw [hB7 k e]; exact Nat.le_refl _
                  · rw [h] at e; injection e with e; simp at e; omega)
                have hby9 := hby.trans (hb9.mono hby.size)
                have hl9 : (acc.take (0) ++ f :: acc.drop (0)).length = acc.length + 1 := by simp <;> omega
                have ho9 : Own w9 w1.heap.size 80 4 v9 (acc.take (0) ++ f :: acc.drop (0)).length ((acc.take (0) ++ f :: acc.drop (0)).flatMap Fld.enc) := hown9.cast (by rw [hl9]; omega) (by simp)
                have HN := Lib.hid (HS.out.1 _ HP.out)
                have HO2 := Lib.hid (HOF.out _ HP.out).1
                have HR2 := Lib.hid (HOF.out _ HP.out).2
                have hl2 : (acc.take (0) ++ f :: acc.drop (0)).length ≤ 8 * k + (m + 1) := by omega
                go_roundw
                case rel => exact ⟨m + 1, _, by omega, by go_num, hby9, ho9, hl2, HO2, HR2, HN⟩
                case measure => simp [intOf]; omega
            | succ p =>
              obtain rfl : z = (p : Int) + 1 := by omega
              clear hzp
              obtain ⟨q, hq⟩ : ∃ d, acc[p]? = some d := ⟨_, List.getElem?_eq_getElem (by omega)⟩
              obtain ⟨bo, oo, hAo, _, r0, r1, r2, r3⟩ := fld_at (hownr.flds HO.out) hq
              subst hAo
              have hpl : (p : Int) < (acc.length : Int) := by omega
              have hp0 : (0 : Int) < (p : Int) + 1 := by omega
              have hL : Op.bytesLess q.name.toList f.name.toList = decide (fldC f.name q < 0) := ltS_cmp q.name f.name
              have hE : (q.name.toList == f.name.toList) = decide (q.name = f.name) := bytes_beq q.name f.name
              rcases Int.lt_trichotomy (fldC f.name q) 0 with hc | hc | hc
              · have hqf : ¬ q.name = f.name := fun e => by unfold fldC at hc; rw [cmpS_zero.2 e] at hc; omega
                rw [decide_eq_true hc] at hL
                rw [decide_eq_false hqf] at hE
                have hE2 : ¬ q.name.toList = f.name.toList := by rw [bytes_eq]; exact hqf
                obtain ⟨HP1, HP2⟩ := low_new HR.out hp HA.out (.inr ⟨q, by simpa using hq, hc⟩)
                have HP := Lib.hid (put_new HP2)
                rw [HP1] at HP
                have hpo : (p : Int) + 1 ≤ (co : Int) := by omega
                have hpl' : (p : Int) + 1 ≤ (acc.length : Int) := by omega
                clear HP1 HP2 hc hqf hq
                go_wp2_with fail
                go_quiet (fail)
                go_wp2_with fail
                go_quiet (fail)
                generalize hx0 : (wr.drewN _).drewN _ = W0
                have hbx0 : Below wr.heap.size wr W0 := by rw [← hx0]; exact below_drewN (below_drewN (Below.refl _ _) _) _
                have hsx : W0.heap.size = wr.heap.size := by rw [← hx0]; rfl
                have hownx := hownr.below hbx0
                clear hx0
                have hws := hby.size
                have hY0 := Lib.hid z0
                have hY1 := Lib.hid z1
                have hY2 := Lib.hid z2
                have hY3 := Lib.hid z3
                go_wp2_with (first
                  | (at_builtin; refine wpList_append_q _ rfl (.tmp 84) (.tmp 87) _ rfl w1.heap.size 80 i0 (.agg #[.string .empty, .int .i64 0, .bool false, .bool false]) 4 32 Tryd.underlying40 ei ez ez1 ez2 rfl (by decide) (.slice none 0 0) 0 [] rfl (Own.nil _ _ _ _) _ (p + 1) _ ((acc.take (p + 1)).flatMap Fld.enc) rfl (by rw [flat_len Fld.enc_len]; simp <;> omega) (fun _ => ⟨_, rfl, read_take hownx (by omega)⟩) (oneCell_flat Fld.enc_one _) (by unfold maxLen; omega) (by omega) (by omega) ?_
                     intro v7 w7 hown7 hg7 hat7
                     have hs7 := hg7.size
                     have hb7 : Below wr.heap.size wr w7 := hbx0.grown hg7 (by omega) (fun k e => by cases e)
                     have hB7 : ∀ k, v7.ownBlock = some k → k = wr.heap.size := fun k e => by
                       rcases hat7 with h | h
                       · rw [h] at e; cases e
                       · rw [h] at e; injection e with e; omega
                     have x0 := cell_below hb7 hY0.out
                     have x1 := cell_below hb7 hY1.out
                     have x2 := cell_below hb7 hY2.out
                     have x3 := cell_below hb7 hY3.out
                     have hsw7 := hb7.size)
                  | (at_builtin; refine wpList_append_q _ rfl (.tmp 89) (.tmp 94) _ rfl w1.heap.size 80 i0 (.agg #[.string .empty, .int .i64 0, .bool false, .bool false]) 4 32 Tryd.underlying40 ei ez ez1 ez2 rfl (by decide) v7 (0 + (p + 1)) ([] ++ (acc.take (p + 1)).flatMap Fld.enc) rfl (hown7.alloc _) _ 1 1 f.enc rfl rfl (fun _ => ⟨_, rfl, read_new f⟩) f.enc_one (by unfold maxLen; omega) (by omega) (by simp; omega) ?_
                     intro v8 w8 hown8 hg8 hat8
                     have hs8 := hg8.size
                     have hb8 : Below wr.heap.size wr w8 := (hb7.alloc hb7.size _).grown hg8 (by simp at hs8 ⊢; omega) (fun k e => by rw [hB7 k e]; exact Nat.le_refl _)
                     have hsw8 := hb8.size
                     have hown8a := hownr.below hb8)
                  | (at_builtin; refine wpList_append_q _ rfl (.tmp 96) (.tmp 99) _ rfl w1.heap.size 80 i0 (.agg #[.string .empty, .int .i64 0, .bool false, .bool false]) 4 32 Tryd.underlying40 ei ez ez1 ez2 rfl (by decide) v8 (0 + (p + 1) + 1) ([] ++ (acc.take (p + 1)).flatMap Fld.enc ++ f.enc) rfl hown8 _ _ _ ((acc.drop (p + 1)).flatMap Fld.enc) rfl (by rw [flat_len Fld.enc_len]; simp <;> omega) (fun h => ⟨⟨bo, oo + (p + 1) * 4, none⟩, by have hne : ¬ co = p + 1 := (by omega); simp [hne, addr_add], read_drop hown8a (by omega)⟩) (oneCell_flat Fld.enc_one _) (by unfold maxLen; omega) (by omega) (by omega) ?_
                     intro v9 w9 hown9 hg9 hat9))
                have hb9 : Below wr.heap.size wr w9 := hb8.grown hg9 (by have := hg9.size; omega) (fun k e => by
                  rcases hat8 with h | h
                  · rw [h] at e; rw [hB7 k e]; exact Nat.le_refl _
                  · rw [h] at e; injection e with e; simp at e; omega)
                have hby9 := hby.trans (hb9.mono hby.size)
                have hl9 : (acc.take (p + 1) ++ f :: acc.drop (p + 1)).length = acc.length + 1 := by simp <;> omega
                have ho9 : Own w9 w1.heap.size 80 4 v9 (acc.take (p + 1) ++ f :: acc.drop (p + 1)).length ((acc.take (p + 1) ++ f :: acc.drop (p + 1)).flatMap Fld.enc) := hown9.cast (by rw [hl9]; omega) (by simp)
                have HN := Lib.hid (HS.out.1 _ HP.out)
                have HO2 := Lib.hid (HOF.out _ HP.out).1
                have HR2 := Lib.hid (HOF.out _ HP.out).2
                have hl2 : (acc.take (p + 1) ++ f :: acc.drop (p + 1)).length ≤ 8 * k + (m + 1) := by omega
                go_roundw
                case rel => exact ⟨m + 1, _, by omega, by go_num, hby9, ho9, hl2, HO2, HR2, HN⟩
                case measure => simp [intOf]; omega
              · have hqf : q.name = f.name := by unfold fldC at hc; exact cmpS_zero.1 hc
                rw [decide_eq_false (show ¬ fldC f.name q < 0 by omega)] at hL
                rw [decide_eq_true hqf] at hE
                obtain ⟨HP1, HP2⟩ := at_old HR.out hq hqf
                have HP := Lib.hid (put_old HP2 (by rw [HP1]; exact hq))
                have hneq := fld_neq q f
                have hgd := fld_guard
                clear HP1 HP2 hc hqf hq
                by_cases hqq : q = f
                · have hd : decide (q = f) = true := decide_eq_true hqq
                  have HP2 : Hid (putF acc f = some acc) := by unfold Hid; rw [HP.out, if_pos hqq]
                  rw [hd] at hneq
                  have HN := Lib.hid (HS.out.1 _ HP2.out)
                  clear HS HP HP2 HOF hd hqq
                  go_wp2_with fail
                  go_quiet (fail)
                  go_wp2_with fail
                  go_quiet (fail)
                  go_wp2_with fail
                  go_quiet (fail)
                  go_wp2_with fail
                  go_roundw
                  case rel => exact ⟨m + 1, acc, by omega, by go_num, below_drewN hby _, hownr.drewN _, by omega, HO, HR, HN⟩
                  case measure => simp [intOf]; omega
                · have hd : decide (q = f) = false := decide_eq_false hqq
                  have HP2 : Hid (putF acc f = none) := by unfold Hid; rw [HP.out, if_neg hqq]
                  rw [hd] at hneq
                  have HN := Lib.hid (HS.out.2 HP2.out)
                  clear HS HP HP2 HOF hd hqq
                  go_wp2_with fail
                  go_quiet (fail)
                  go_wp2_with fail
                  go_quiet (fail)
                  go_wp2_with fail
                  go_quiet (fail)
                  go_wp2_with fail
                  go_ret2
                  refine ⟨.slice none 0 0, ?_, ?_, below_drewN (below_drewN (below_drewN (hb1.trans (hby.mono hb1.size)) _) _) _⟩
                  · rw [HN.out]; rfl
                  · rw [HN.out]; exact Sl.nil 0 (Nat.zero_le _) none
              · have hqf : ¬ q.name = f.name := fun e => by unfold fldC at hc; rw [cmpS_zero.2 e] at hc; omega
                rw [decide_eq_false (show ¬ fldC f.name q < 0 by omega)] at hL
                rw [decide_eq_false hqf] at hE
                have hE2 : ¬ q.name.toList = f.name.toList := by rw [bytes_eq]; exact hqf
                have HN : Hid (∀ i d, p ≤ i → acc[i]? = some d → ltS f.name d.name = true) := fun i d hi hd => by
                  by_cases hip : i = p
                  · subst hip; rw [hq] at hd; injection hd with hd; subst hd; rw [fldC_lt]; exact decide_eq_true hc
                  · exact HA.out i d (by omega) hd
                clear hq hc hqf
                go_wp2_with fail
                go_quiet (fail)
                go_wp2_with fail
                go_roundw
                case rel => exact ⟨p, p, by omega, rfl, by go_num, below_drewN hby _, below_drewN hb3 _, HN⟩
                case measure => simp [intOf]
        · obtain rfl : m = kd.fields.length := by omega
          have HE3 : Hid (fieldsOf l name = ((ks.drop (k + 1)).flatMap (fldsFor l)).foldlM putF acc) := by unfold Hid; rw [HE.out, List.drop_length]; rfl
          clear HE
          go_wp2_with fail
          go_roundw
          case rel => exact ⟨k + 1, acc, by omega, by go_num, hbx, hown, by omega, HO, HR, HE3⟩
          case measure => simp [intOf]; omega
    · obtain rfl : k = ks.length := by omega
      have HQ : Hid (fieldsOf l name = some acc) := by unfold Hid; rw [HE.out, List.drop_length]; rfl
      have hsl := hown.flds HO.out
      obtain ⟨Ao, co, rfl, _, _⟩ := hown.form
      go_wp2_with fail
      go_ret2
      refine ⟨.slice Ao acc.length co, ?_, ?_, hb1.trans (hbr.mono hb1.size)⟩
      · rw [HQ.out]; rfl
      · rw [HQ.out]; exact hsl
end Go.Proofs.YthefofclbepkoaaDoor

/- Contract: kinsame.Schema, at two that read the same. No condition. -/
namespace Go.Proofs.YthefofclbepkoaaDoor
open Go Go.RowKit

theorem bnd_guard (op : BinOp) (a b : Operand) (xs ys : Array Value) (w : World) : (eqGuard op 77 a b (.agg xs) (.agg ys)).run Tryd.prog w = .ok () w := run_eqGuard_agg w op 77 a b xs ys (by kernel_rfl)
theorem bnd_same (d : Nat) (x y : Bnd) (w : World) : (Op.equalIn (d + 2) 77 (.agg #[.string x.name, .string x.src, .string x.dst, .int .i64 x.mn, .int .i64 x.mx]) (.agg #[.string y.name, .string y.src, .string y.dst, .int .i64 y.mn, .int .i64 y.mx])).run Tryd.prog w = .ok (decide (x = y)) w := by
  have hS : Tryd.prog.underlying 77 = some (.struct (Tryd.prog.fieldsOf 77)) := by kernel_rfl
  have hp : Tryd.prog.stoodInHeld 77 = false := by kernel_rfl
  have e1 := Tryd.underlying9
  have e2 := Tryd.underlying3
  rw [run_equalIn_agg w (d + 1) 77 _ _ hS hp]
  simp only [Program.fieldsOf, Tryd.underlying77]
  go_simp
  simp only [bytes_eq]
  cases x; cases y
  simp only [Bnd.mk.injEq]
  rename_i a b c d e a' b' c' d' e'
  by_cases h1 : a = a' <;> by_cases h2 : b = b' <;> by_cases h3 : c = c' <;> by_cases h4 : d = d' <;> by_cases h5 : e = e' <;> simp [h1, h2, h3, h4, h5]
theorem bnd_neq (x y : Bnd) (w : World) : (binOp .neq 77 (.agg #[.string x.name, .string x.src, .string x.dst, .int .i64 x.mn, .int .i64 x.mx]) (.agg #[.string y.name, .string y.src, .string y.dst, .int .i64 y.mn, .int .i64 y.mx])).run Tryd.prog w = .ok (.bool (!decide (x = y))) w := by
  rw [run_neq_struct, show (10000 : Nat) = 9998 + 2 from rfl, bnd_same]; rfl
end Go.Proofs.YthefofclbepkoaaDoor

/- As Qm: the operation in the middle may be guarded; its guard lets it be done. Conditions: the Bool on the region. -/
namespace Go.Proofs.YthefofclbepkoaaDoor
open Go Go.RowKit Go.Sort
section
variable {P : Program} {ops : Array Oper} {md : Region.Mode} {C : World → Prop}
theorem wp_region_midg {id : Nat} {Q : Exit → Act → World → Prop} {a : Act} {w : World} {l : List Oper} (n : Nat) (om : Oper) (hom : l[n]? = some om) (hm : P.follows .mixedOrders = true) (hB : midB .any l.toArray n = true)
    (hC : C { w with drawn := w.drawn + 1 })
    (h : wpQuiet P l.toArray C (fun a' => Region.wanted om (yielded l.toArray a'.tmps) = true ∧ ∀ w', C w' → om.wp P a' w' (fun a2 w2 => wpQuiet P l.toArray (fun x => ∃ n, x = w2.drewN n) (fun a3 => ∀ w3, (∃ n, w3 = w2.drewN n) → Q .normal a3 w3) (l.drop (n + 1)) a2) Q) (l.take n) a) : (Code.region id l.toArray true).wp P Q a w := by
  simp only [midB, Bool.and_eq_true, decide_eq_true_eq] at hB
  obtain ⟨⟨⟨⟨hsel, hn⟩, hs⟩, hc⟩, hlex⟩ := hB
  have hn' : n < l.length := by simpa using hn
  have htl : (l.take n).length = n := by simp; omega
  have hdl : (l.drop (n + 1)).length = l.toArray.size - n - 1 := by simp; omega
  have inv0 : HeadInv .any l.toArray n (Array.replicate l.toArray.size false) :=
    ⟨by simp, fun j oj _ hl => (by rw [getD_replicate_false] at hl; cases hl), fun t _ ht => getD_in (by simpa using ht) (getD_replicate_false _ _)⟩
  have H := wpAnyLQ_lex2 (C := C) (md := .any) (g := l.toArray.size - n - 1) hsel hs hc hn (l.take n) 0 _ a (fun j hj => by
    have hj' : j < n := by rw [htl] at hj; exact hj
    simp [hj']) (by simpa using htl) inv0 (by rw [htl]; exact hlex) h
  refine wp_region_any hm ?_
  have key := wpAny_of_headQ (C := C) (Q' := Q) (g := l.toArray.size - n - 1 + 1) (fun listed a' w' hw' hL => by
    have h1 := hL.1
    simp only [midRest, Bool.and_eq_true, decide_eq_true_eq] at h1
    refine ⟨fun h0 => (by rw [h1.1] at h0; cases h0), fun i hi => ?_⟩
    rw [h1.1] at hi
    obtain rfl : i = n := by simpa using hi
    have h0 : l.toArray[i]? = some om := by simpa using hom
    unfold wpOp
    simp only [h0]
    have hw := hL.2.1
    simp only [hw, if_true]
    refine .inl ?_
    have h2 := hL.2.2 w' hw'
    unfold Oper.wp at h2 ⊢
    generalize (execOp a'.eval om).run P w' = r at h2 ⊢
    have step : ∀ a2 w2, wpQuiet P l.toArray (fun x => ∃ n, x = w2.drewN n) (fun a3 => ∀ w3, (∃ n, w3 = w2.drewN n) → Q .normal a3 w3) (l.drop (i + 1)) a2 →
        wpAny P .any l.toArray Q (l.toArray.size - i - 1) (listed.setIfInBounds i true) a2 w2 := fun a2 w2 hq => by
      have h3 := wpAnyQ_lex (C := fun x => ∃ n, x = w2.drewN n) (md := .any) hsel (l.drop (i + 1)) (i + 1) (listed.setIfInBounds i true) a2 (fun j => by simp [List.getElem?_drop]) (by rw [hdl]; exact h1.2) hq
      rw [hdl] at h3
      exact wpAny_of_quiet (Q := fun a3 => ∀ w3, (∃ n, w3 = w2.drewN n) → Q .normal a3 w3) (fun _ w3 hw3 h => h w3 hw3) _ _ _ _ ⟨0, rfl⟩ h3
    cases r with
    | ok nx w2 =>
      cases nx <;> simp only [Oper.upon] at h2 ⊢
      case value v => exact step _ _ h2
      case skip => exact step _ _ h2
      case defer d => exact step _ _ h2
      case enter f args =>
        refine h2.mono fun e w3 h3 => ?_
        cases e with
        | returned v => exact step _ _ h3
        | panicked c => exact h3
        | outgrown => exact h3
      case row r args => exact h2.mono fun v w3 h3 => step _ _ h3
      all_goals first | exact h2.elim | exact h2
    | halt hh w2 =>
      cases hh <;> simp only [Oper.upon] at h2 ⊢
      all_goals first | exact h2 | exact h2.elim) _ _ _ _ hC H
  rw [htl, show n + (l.toArray.size - n - 1 + 1) = l.toArray.size by simp only [List.size_toArray]; omega] at key
  exact key

theorem wp_mid_g {id : Nat} {Q : Exit → Act → World → Prop} {a : Act} {w : World} {l : List Oper} (n : Nat) (om : Oper) (hom : l[n]? = some om) (hm : P.follows .mixedOrders = true) (hB : midB .any l.toArray n = true)
    (h : wpQuiet P l.toArray (fun w' => ∃ n, w' = w.drewN n) (fun a' => Region.wanted om (yielded l.toArray a'.tmps) = true ∧ ∀ w', (∃ n, w' = w.drewN n) → ∀ K : Act → World → Prop, (∀ a2 w2, wpQuiet P l.toArray (fun x => ∃ n, x = w2.drewN n) (fun a3 => ∀ w3, (∃ n, w3 = w2.drewN n) → Q .normal a3 w3) (l.drop (n + 1)) a2 → K a2 w2) → om.wp P a' w' K Q) (l.take n) a) : (Code.region id l.toArray true).wp P Q a w :=
  wp_region_midg (C := fun w' => ∃ n, w' = w.drewN n) n om hom hm hB ⟨1, rfl⟩ (wpQuiet_mono (fun _ h => ⟨h.1, fun w' hw' => h.2 w' hw' _ fun _ _ h => h⟩) _ _ h)
end
end Go.Proofs.YthefofclbepkoaaDoor
