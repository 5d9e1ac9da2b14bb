/- Contract: the law KindHolds answers true. -/
import Derived.Test.YtdfeloeainabjaaKinL
namespace Go.Proofs.Ytdfeloeainabjaa
open Go Go.RowKit

/-! ### Plain -/
theorem readyE_of {l : List Knd} {a s : ByteArray} (h : readyE l [a] = 0) (hs : ∃ k ∈ l, k.name = s) : readyE l [s] = 0 := by
  have hc : (checkE l).2 = 0 := by
    unfold readyE at h
    split at h
    · assumption
    · rename_i h0; exact absurd h h0
  obtain ⟨k, hk, rfl⟩ := hs
  have := kFind_mem hk
  unfold readyE
  rw [if_pos hc, if_neg]
  simp; omega
theorem name_of_ready {l : List Knd} {a : ByteArray} (h : readyE l [a] = 0) : ∃ k ∈ l, k.name = a := by
  obtain ⟨i, k, _, h2, h3, _⟩ := kFind_pos ((readyE_zero h).2 a (by simp))
  exact ⟨k, List.mem_of_getElem? h2, h3⟩
theorem isKinB_iff {l : List Knd} {a b : ByteArray} : isKinB l a b = true ↔ b ∈ kinL l a := by
  unfold isKinB
  rw [List.any_eq_true]
  constructor
  · rintro ⟨y, hy, h⟩; simp at h; subst h; exact hy
  · intro h; exact ⟨b, h, by simp⟩
theorem isR_trans {l : List Knd} {a b c : ByteArray} (e1 : readyE l [a, b] = 0) (e2 : readyE l [b, c] = 0) (e3 : readyE l [a, c] = 0) (h1 : isR l a b = true) (h2 : isR l b c = true) : isR l a c = true := by
  unfold isR at *
  rw [if_pos e1] at h1
  rw [if_pos e2] at h2
  rw [if_pos e3]
  rw [isKinB_iff] at *
  exact kinL_trans (readyE_zero e1).1.wf h1 h2
/-- What holds of each kin. -/
theorem kin_each {l : List Knd} {a : ByteArray} (h : readyE l [a] = 0) {s : ByteArray} (hs : s ∈ kinR l a) : readyE l [s] = 0 ∧ (underR l s).any (fun y => decide (y = a)) = true ∧ ∀ x ∈ fieldsR l s, x ∈ fieldsR l a := by
  have hR := (readyE_zero h).1
  unfold kinR at hs
  rw [if_pos h] at hs
  have hs1 := (mem_kinL.1 hs).1
  have e1 := readyE_of h hs1
  obtain ⟨ka, hka, rfl⟩ := name_of_ready h
  obtain ⟨ks, hks, rfl⟩ := hs1
  refine ⟨e1, ?_, ?_⟩
  · unfold underR
    rw [if_pos e1, List.any_eq_true]
    exact ⟨ka.name, List.mem_map.2 ⟨ka, List.mem_filter.2 ⟨hka, isKinB_iff.2 hs⟩, rfl⟩, by simp⟩
  · unfold fieldsR
    rw [if_pos h, if_pos e1]
    obtain ⟨fs, hf, _⟩ := hR.fields hka
    obtain ⟨gs, hg, _⟩ := hR.fields hks
    rw [hf, hg]
    exact fieldsOf_sub hR.wf hf hg hs
theorem kin_self {l : List Knd} {a : ByteArray} (h : readyE l [a] = 0) : (kinR l a).any (fun y => decide (y = a)) = true := by
  unfold kinR
  obtain ⟨ka, hka, rfl⟩ := name_of_ready h
  rw [if_pos h, List.any_eq_true]
  exact ⟨ka.name, kinL_self hka, by simp⟩
def twoK : List Knd := [⟨⟨#[97]⟩, [], [⟨⟨#[120]⟩, 1, false, false⟩]⟩, ⟨⟨#[98]⟩, [⟨#[97]⟩], []⟩]
theorem two_ready : readyE twoK [⟨#[98]⟩] = 0 := by decide +kernel
theorem two_fields : fieldsR twoK ⟨#[98]⟩ = [⟨⟨#[120]⟩, 1, false, false⟩] := by decide +kernel

/-! ### The small list in memory -/
theorem twoR (w : World) : Sl kndL (((w.alloc (.cells #[.string ⟨#[120]⟩, .int .i64 1, .bool false, .bool false] 49)).alloc (.cells #[.string ⟨#[97]⟩] 9)).alloc
    (.cells #[.string ⟨#[97]⟩, .slice none 0 0, .slice (some ⟨w.heap.size, 0, none⟩) 1 1, .string ⟨#[98]⟩, .slice (some ⟨w.heap.size + 1, 0, none⟩) 1 1, .slice none 0 0] 52)) (.slice (some ⟨w.heap.size + 1 + 1, 0, none⟩) 2 2) twoK := by
  have hm : Sm ⟨#[97]⟩ ∧ Sm ⟨#[98]⟩ ∧ Sm ⟨#[120]⟩ := ⟨by show 1 ≤ 1048576; omega, by show 1 ≤ 1048576; omega, by show 1 ≤ 1048576; omega⟩
  refine ⟨_, 2, rfl, by decide, by simp [maxLen], fun i d hi => ?_⟩
  have hc : ∀ (o : Nat), (((w.alloc (.cells #[.string ⟨#[120]⟩, .int .i64 1, .bool false, .bool false] 49)).alloc (.cells #[.string ⟨#[97]⟩] 9)).alloc
    (.cells #[.string ⟨#[97]⟩, .slice none 0 0, .slice (some ⟨w.heap.size, 0, none⟩) 1 1, .string ⟨#[98]⟩, .slice (some ⟨w.heap.size + 1, 0, none⟩) 1 1, .slice none 0 0] 52)).cell? ⟨w.heap.size + 1 + 1, o, none⟩ =
      #[Value.string ⟨#[97]⟩, .slice none 0 0, .slice (some ⟨w.heap.size, 0, none⟩) 1 1, .string ⟨#[98]⟩, .slice (some ⟨w.heap.size + 1, 0, none⟩) 1 1, .slice none 0 0][o]? := fun o => by rw [World.cell?_alloc_at _ _ _ _ (by simp)]
  match i, hi with
  | 0, hi =>
    injection hi with e; subst e
    refine ⟨_, 0, [.string ⟨#[97]⟩, .slice none 0 0, .slice (some ⟨w.heap.size, 0, none⟩) 1 1], rfl, ⟨_, _, rfl, hm.1, Sl.nil 0 (Nat.zero_le _) none, ?_⟩, fun j u hj => ?_⟩
    · refine Sl.below (((Below.refl _ _).alloc (Nat.le_refl _) _).alloc (by simp) _) (sl_block (t := 49) (fr := (0, 0)) Fld.enc_len [⟨⟨#[120]⟩, 1, false, false⟩] (fun x hx => by simp at hx; subst hx; exact ⟨hm.2.2, by show I64 (1 : Int); unfold I64; omega⟩) 1 (by simp) (by simp [maxLen]) (heap_alloc_new _ _))
    · rw [hc]
      match j, hj with
      | 0, hj => exact hj
      | 1, hj => exact hj
      | 2, hj => exact hj
  | 1, hi =>
    injection hi with e; subst e
    refine ⟨_, 0, [.string ⟨#[98]⟩, .slice (some ⟨w.heap.size + 1, 0, none⟩) 1 1, .slice none 0 0], rfl, ⟨_, _, rfl, hm.2.1, ?_, Sl.nil 0 (Nat.zero_le _) none⟩, fun j u hj => ?_⟩
    · have := sl_strs (W := (w.alloc (.cells #[.string ⟨#[120]⟩, .int .i64 1, .bool false, .bool false] 49)).alloc (.cells #[.string ⟨#[97]⟩] 9)) (t := 9) [⟨#[97]⟩] (fun x hx => by simp at hx; subst hx; exact hm.1) (by simp [maxLen]) (heap_alloc_new _ _)
      exact Sl.below ((Below.refl _ _).alloc (Nat.le_refl _) _) (by simpa using this)
    · rw [hc]
      match j, hj with
      | 0, hj => exact hj
      | 1, hj => exact hj
      | 2, hj => exact hj

set_option maxRecDepth 100000 in
set_option maxHeartbeats 8000000 in
theorem kindHolds_any (l : List Knd) (a b c : ByteArray) (v : Value) (w : World) (hv : Sl kndL w v l) (ha : Sm a) (hb : Sm b) (hc : Sm c) :
    Calls Try.prog 5 #[v, .string a, .string b, .string c] w fun e w' => e = .returned (.bool true) ∧ Below w.heap.size w w' := by
  have h2 := twoR w
  have hb0 : Below w.heap.size w (((w.alloc (.cells #[.string ⟨#[120]⟩, .int .i64 1, .bool false, .bool false] 49)).alloc (.cells #[.string ⟨#[97]⟩] 9)).alloc
    (.cells #[.string ⟨#[97]⟩, .slice none 0 0, .slice (some ⟨w.heap.size, 0, none⟩) 1 1, .string ⟨#[98]⟩, .slice (some ⟨w.heap.size + 1, 0, none⟩) 1 1, .slice none 0 0] 52)) := (((Below.refl _ _).alloc (Nat.le_refl _) _).alloc (by simp) _).alloc (by simp; omega) _
  have hk1 := kfields_any twoK ⟨#[98]⟩ _ _ h2 (by show 1 ≤ 1048576; omega)
  rw [two_ready, two_fields] at hk1
  have HV := Lib.hid hv
  obtain ⟨A, cA, rfl, _, _⟩ := hv.form
  clear hv h2
  go_enter Try.func5, Try.ntmps5
  go_wp2_with fail
  refine hk1.mono ?_
  clear hk1
  rintro e w1 ⟨fv, rfl, hfs, hb1⟩
  have hB1 := hb0.trans (hb1.mono hb0.size)
  clear hb0 hb1
  obtain ⟨Af, cf, rfl, _, _⟩ := hfs.form
  obtain ⟨bf, of, rfl, _, x0, _, _, _⟩ := fld_at hfs (k := 0) rfl
  simp only [Nat.zero_mul, Nat.add_zero] at x0
  rw [errV0]
  clear hfs
  have hkin := kin_any l a _ w1 (HV.out.below hB1) ha
  go_wp2_with fail
  refine hkin.mono ?_
  clear hkin x0
  rintro e w2 ⟨kv, rfl, hks, hb2⟩
  have hB2 := hB1.trans (hb2.mono hB1.size)
  clear hB1 hb2
  by_cases he : readyE l [a] = 0
  case neg =>
    rw [errV_some he]
    clear he
    obtain ⟨Ak, ck, rfl, _, _⟩ := hks.form
    clear hks
    go_wp2_with fail
    go_ret
    exact ⟨rfl, hB2⟩
  have HE : Hid (readyE l [a] = 0) := he
  have HK : Hid (∀ s ∈ kinR l a, readyE l [s] = 0 ∧ (underR l s).any (fun y => decide (y = a)) = true ∧ ∀ x ∈ fieldsR l s, x ∈ fieldsR l a) := fun s hs => kin_each he hs
  have hin := in1_any (kinR l a) a _ w2 hks
  rw [kin_self he] at hin
  rw [errV_zero he]
  clear he
  generalize kinR l a = ks at *
  obtain ⟨Ak, ck, rfl, _, hck⟩ := hks.form
  have hkm : (ks.length : Int) ≤ 9223372036854775807 := by unfold maxLen at hck; omega
  have HKS := Lib.hid hks
  clear hks hck
  go_wp2_with fail
  refine hin.mono ?_
  clear hin
  rintro e w2' ⟨rfl, rfl⟩
  go_wp2_with fail
  refine (is_any l a b _ w2 (HV.out.below hB2) ha hb).mono ?_
  rintro e w3 ⟨rfl, hb3⟩
  have hB3 := hB2.trans (hb3.mono hB2.size)
  have hK3 := hb3
  go_wp2_with fail
  refine (is_any l b c _ w3 (HV.out.below hB3) hb hc).mono ?_
  rintro e w4 ⟨rfl, hb4⟩
  have hB4 := hB3.trans (hb4.mono hB3.size)
  have hK4 := hK3.trans (hb4.mono hK3.size)
  go_wp2_with fail
  refine (is_any l a c _ w4 (HV.out.below hB4) ha hc).mono ?_
  rintro e w5 ⟨rfl, hb5⟩
  have hB5 := hB4.trans (hb5.mono hB4.size)
  have hK5 := hK4.trans (hb5.mono hK4.size)
  clear hB2 hB3 hB4 hb3 hb4 hb5 hK3 hK4
  have hT := Lib.hid (isR_trans (l := l) (a := a) (b := b) (c := c))
  generalize isR l a b = x at *
  generalize isR l b c = y at *
  generalize isR l a c = z at *
  generalize readyE l [a, b] = e1 at *
  generalize readyE l [b, c] = e2 at *
  generalize readyE l [a, c] = e3 at *
  have hfa := kfields_any l a _ w5 (HV.out.below hB5) ha
  rw [HE.out] at hfa
  generalize fieldsR l a = fa at *
  have hway : (∃ k, errV e1 = .iface 23 (.int .i64 k)) ∨ (errV e1 = .nilIface ∧ ∃ k, errV e2 = .iface 23 (.int .i64 k)) ∨ (errV e1 = .nilIface ∧ errV e2 = .nilIface ∧ ∃ k, errV e3 = .iface 23 (.int .i64 k)) ∨
      (errV e1 = .nilIface ∧ errV e2 = .nilIface ∧ errV e3 = .nilIface ∧ x = false) ∨ (errV e1 = .nilIface ∧ errV e2 = .nilIface ∧ errV e3 = .nilIface ∧ x = true ∧ y = false) ∨ (errV e1 = .nilIface ∧ errV e2 = .nilIface ∧ errV e3 = .nilIface ∧ x = true ∧ y = true ∧ z = true) := by
    by_cases h1 : e1 = 0
    case neg => exact .inl ⟨_, errV_some h1⟩
    by_cases h2 : e2 = 0
    case neg => exact .inr (.inl ⟨errV_zero h1, _, errV_some h2⟩)
    by_cases h3 : e3 = 0
    case neg => exact .inr (.inr (.inl ⟨errV_zero h1, errV_zero h2, _, errV_some h3⟩))
    cases hx : x
    · exact .inr (.inr (.inr (.inl ⟨errV_zero h1, errV_zero h2, errV_zero h3, rfl⟩)))
    cases hy : y
    · exact .inr (.inr (.inr (.inr (.inl ⟨errV_zero h1, errV_zero h2, errV_zero h3, rfl, rfl⟩))))
    · exact .inr (.inr (.inr (.inr (.inr ⟨errV_zero h1, errV_zero h2, errV_zero h3, rfl, rfl, hT.out h1 h2 h3 hx hy⟩))))
  clear hT
  rcases hway with ⟨k1, r1⟩ | ⟨r1, k2, r2⟩ | ⟨r1, r2, k3, r3⟩ | ⟨r1, r2, r3, rfl⟩ | ⟨r1, r2, r3, rfl, rfl⟩ | ⟨r1, r2, r3, rfl, rfl, rfl⟩
  all_goals
    (try rw [r1]); (try rw [r2]); (try rw [r3])
    clear r1
    try clear r2
    try clear r3
  all_goals
    go_wp2_with fail
    refine hfa.mono ?_
    clear hfa
    rintro e w6 ⟨fv2, rfl, hfs, hb6⟩
    have hB6 := hB5.trans (hb6.mono hB5.size)
    have hK6 := hK5.trans (hb6.mono hK5.size)
    rw [errV0]
    obtain ⟨Ag, cg, rfl, _, hcg⟩ := hfs.form
    have hfm : (fa.length : Int) ≤ 9223372036854775807 := by unfold maxLen at hcg; omega
    have HF := Lib.hid hfs
    clear hfs hcg hB5 hK5 hb6
    go_wp2_with fail
    go_loopw [23] (fun i wr => ∃ k : Nat, k ≤ ks.length ∧ i = .int .i64 k ∧ Below w6.heap.size w6 wr) (fun i _ => ks.length - (intOf i).toNat)
    case atStart => exact ⟨0, Nat.zero_le _, rfl, Below.refl _ _⟩
    case round =>
      obtain ⟨k, hk, rfl, hbr⟩ := hrel
      have hBr := hB6.trans (hbr.mono hB6.size)
      have hKr := hK6.trans (hbr.mono hK6.size)
      by_cases hlt : k < ks.length
      · obtain ⟨s, hs⟩ : ∃ s, ks[k]? = some s := ⟨_, List.getElem?_eq_getElem hlt⟩
        obtain ⟨bk, ok, rfl, hss, x0⟩ := str_at (HKS.out.below hKr) hs
        obtain ⟨he1, hu, hsub⟩ := HK.out s (List.mem_of_getElem? hs)
        have hf1 := kfields_any l s _ wr (HV.out.below hBr) hss
        rw [he1] at hf1
        have HSU := Lib.hid hsub
        have HUN := Lib.hid hu
        have HE1 := Lib.hid he1
        have hlt' : (k : Int) < (ks.length : Int) := by omega
        clear hs he1 hu hsub
        go_wp2_with fail
        refine hf1.mono ?_
        clear hf1
        rintro e w7 ⟨gv, rfl, hgs, hb7⟩
        have hB7 := hBr.trans (hb7.mono hBr.size)
        have y0 := cell_below hb7 x0
        have hu1 := under_any l s _ w7 (HV.out.below hB7) hss
        rw [HE1.out] at hu1
        rw [errV0]
        have h67 := hbr.trans (hb7.mono hbr.size)
        generalize fieldsR l s = gs at *
        obtain ⟨A7, c7, rfl, _, hc7⟩ := hgs.form
        have hgm : (gs.length : Int) ≤ 9223372036854775807 := by unfold maxLen at hc7; omega
        have HG := Lib.hid hgs
        clear hgs hc7 hb7 x0
        go_wp2_with fail
        refine hu1.mono ?_
        clear hu1 y0
        rintro e w8 ⟨uv, rfl, hus, hb8⟩
        have h68 := h67.trans (hb8.mono h67.size)
        have hin := in1_any (underR l s) a _ w8 hus
        rw [HUN.out] at hin
        rw [errV0]
        obtain ⟨A8, c8, rfl, _, _⟩ := hus.form
        clear hus h67
        go_wp2_with fail
        refine hin.mono ?_
        clear hin
        rintro e w8' ⟨rfl, rfl⟩
        go_wp2_with fail
        go_loopw [28] (fun i wx => ∃ m : Nat, m ≤ gs.length ∧ i = .int .i64 m ∧ Below w8.heap.size w8 wx) (fun i _ => gs.length - (intOf i).toNat)
        case atStart => exact ⟨0, Nat.zero_le _, rfl, Below.refl _ _⟩
        case round =>
          clear hbr hBr hKr
          obtain ⟨m, hm, rfl, hbr⟩ := hrel
          by_cases hm2 : m < gs.length
          · obtain ⟨f, hf⟩ : ∃ f, gs[m]? = some f := ⟨_, List.getElem?_eq_getElem hm2⟩
            have HM : Hid (fa.any (fun y => decide (y = f)) = true) := List.any_eq_true.2 ⟨f, HSU.out f (List.mem_of_getElem? hf), by simp⟩
            have hm2' : (m : Int) < (gs.length : Int) := by omega
            have HFF := Lib.hid hf
            clear hf
            go_wp2_with fail
            go_loopw [29, 30] (fun has j wx => ∃ n : Nat, n ≤ fa.length ∧ j = .int .i64 n ∧ has = .bool ((fa.take n).any (fun y => decide (y = f))) ∧ Below w8.heap.size w8 wx) (fun _ j _ => fa.length - (intOf j).toNat)
            case atStart => exact ⟨0, Nat.zero_le _, rfl, by simp, hbr⟩
            case round =>
              clear hbr
              obtain ⟨n, hn, rfl, rfl, hbr⟩ := hrel
              have h6r := h68.trans (hbr.mono h68.size)
              have h7r := hb8.trans (hbr.mono hb8.size)
              by_cases hn2 : n < fa.length
              · obtain ⟨d, hd⟩ : ∃ d, fa[n]? = some d := ⟨_, List.getElem?_eq_getElem hn2⟩
                obtain ⟨bg, og, rfl, _, p0, p1, p2, p3⟩ := fld_at (HF.out.below h6r) hd
                obtain ⟨b7, o7, rfl, _, r0, r1, r2, r3⟩ := fld_at (HG.out.below h7r) HFF.out
                have hn2' : (n : Int) < (fa.length : Int) := by omega
                have HT : Hid ((fa.take (n + 1)).any (fun y => decide (y = f)) = ((fa.take n).any (fun y => decide (y = f)) || decide (d = f))) := by
                  unfold Hid; rw [take_step hd]; simp
                have heql := fld_eql d f
                have hgd := fld_guard
                clear hd
                cases hq : (fa.take n).any (fun y => decide (y = f)) with
                | true =>
                  have HT2 : Hid ((fa.take (n + 1)).any (fun y => decide (y = f)) = true) := by unfold Hid; rw [HT.out, hq]; rfl
                  clear HT hq
                  go_wp2_with fail
                  go_quiet (fail)
                  go_wp2_with fail
                  go_roundw
                  case rel => exact ⟨n + 1, by omega, by go_num, by rw [HT2.out], below_drewN hbr _⟩
                  case measure => simp [intOf]; omega
                | false =>
                  have HT2 : Hid ((fa.take (n + 1)).any (fun y => decide (y = f)) = decide (d = f)) := by unfold Hid; rw [HT.out, hq]; rfl
                  clear HT hq
                  generalize decide (d = f) = q at *
                  go_wp2_with fail
                  go_quiet (fail)
                  go_wp2_with fail
                  go_roundw
                  case rel => exact ⟨n + 1, by omega, by go_num, by rw [HT2.out], below_drewN hbr _⟩
                  case measure => simp [intOf]; omega
              · obtain rfl : n = fa.length := by omega
                have hq : (fa.take fa.length).any (fun y => decide (y = f)) = true := by rw [List.take_length]; exact HM.out
                rw [hq]
                clear hq
                go_wp2_with fail
                go_roundw
                case rel => exact ⟨m + 1, by omega, by go_num, hbr⟩
                case measure => simp [intOf]; omega
          · obtain rfl : m = gs.length := by omega
            go_wp2_with fail
            go_roundw
            case rel => exact ⟨k + 1, by omega, by go_num, h68.trans (hbr.mono h68.size)⟩
            case measure => simp [intOf]; omega
      · obtain rfl : k = ks.length := by omega
        go_wp2_with fail
        go_ret
        exact ⟨rfl, hBr⟩
end Go.Proofs.Ytdfeloeainabjaa
