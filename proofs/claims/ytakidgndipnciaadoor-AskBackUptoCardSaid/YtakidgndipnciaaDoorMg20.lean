/- Parts: AwE. -/
import Derived.Test.YtakidgndipnciaaDoorMg15
/- Contract: ask.Print: a path as text. Conditions: what the library's texts lean on (TxP); the signs are laid. -/
namespace Go.Proofs.YtakidgndipnciaaDoor
open Go Go.RowKit



theorem ask_parts2 {l : List Stp} (h : askE l = 0) : l.length ≤ 6 ∧ ∀ k d, l[k]? = some d → stpE (decide (k = 0)) d = 0 := by
  unfold askE at h
  split at h
  · cases h
  · rename_i h0
    split at h
    · cases h
    · rename_i h6
      refine ⟨by omega, ?_⟩
      cases l with
      | nil => exact absurd rfl h0
      | cons x r =>
        have h : (if stpE true x ≠ 0 then stpE true x else firstE (stpE false) r) = 0 := h
        by_cases hx : stpE true x = 0
        · rw [if_neg (fun e => e hx)] at h
          intro k d hd
          cases k with
          | zero => injection hd with hd; subst hd; exact hx
          | succ k => exact firstE_all h d (List.mem_of_getElem? (by simpa using hd))
        · rw [if_pos hx] at h; exact absurd h hx
theorem stp_parts2 {b : Bool} {x : Stp} (h : stpE b x = 0) : nameE x.kind = 0 ∧ x.tests.length ≤ 8 ∧ (∀ t ∈ x.tests, tstE t = 0) ∧ (b = true → x.bond = .empty ∧ x.back = false) ∧ (b = false → nameE x.bond = 0) := by
  have hk : nameE x.kind = 0 := by
    by_cases hk : nameE x.kind = 0
    · exact hk
    · rw [stp_kind hk] at h; exact absurd h hk
  have hb1 : b = true → x.bond = .empty ∧ x.back = false := fun hb => by
    subst hb
    by_cases h2 : x.bond ≠ .empty ∨ x.back = true
    · rw [stp_first hk h2] at h; cases h
    · refine ⟨?_, ?_⟩
      · by_cases e : x.bond = .empty
        · exact e
        · exact absurd (.inl e) h2
      · cases e : x.back with
        | false => rfl
        | true => exact absurd (.inr e) h2
  have hb2 : b = false → nameE x.bond = 0 := fun hb => by
    subst hb
    by_cases h2 : nameE x.bond = 0
    · exact h2
    · rw [stp_bond hk h2] at h; exact absurd h h2
  rw [stp_rest hk hb1 hb2] at h
  split at h
  · cases h
  · exact ⟨hk, by omega, fun t ht => firstE_all h t ht, hb1, hb2⟩
theorem link_len {b : Bool} {x : Stp} (h : stpE b x = 0) : (linkT x).length ≤ 14 := by
  obtain ⟨_, _, _, h1, h2⟩ := stp_parts2 h
  have hb : x.bond.data.toList.length ≤ 8 := by
    cases b with
    | true => rw [(h1 rfl).1]; decide
    | false => exact name_len (h2 rfl)
  unfold linkT
  split <;> simp only [List.length_append, List.length_cons, List.length_nil] <;> omega
theorem tstsT_len {x : Stp} {b : Bool} (h : stpE b x = 0) : (tstsT x.tests).length ≤ 418 := by
  obtain ⟨_, h8, hok, _⟩ := stp_parts2 h
  have := tsts_len hok
  unfold tstsT
  split
  · simp
  · rw [List.length_cons, List.length_append]; simp; omega
theorem askT_take {l : List Stp} {k : Nat} {d : Stp} (hd : l[k]? = some d) : askT (l.take (k + 1)) = askT (l.take k) ++ ((if k = 0 then [] else linkT d) ++ (d.kind.data.toList ++ tstsT d.tests)) := by
  have hk : k < l.length := (List.getElem?_eq_some_iff.1 hd).1
  rw [List.take_add_one, hd]
  show askT (l.take k ++ [d]) = _
  by_cases h : k = 0
  · subst h
    rw [if_pos rfl]
    show stpT true d ++ [] = [] ++ _
    unfold stpT; simp
  · rw [askT_snoc (fun e => by have := congrArg List.length e; rw [List.length_take, List.length_nil] at this; omega), if_neg h]
    unfold stpT; simp
theorem askT_bound {l : List Stp} (h : ∀ k d, l[k]? = some d → stpE (decide (k = 0)) d = 0) : ∀ k, k ≤ l.length → (askT (l.take k)).length ≤ 440 * k
  | 0, _ => by simp [askT]
  | k + 1, hk => by
    have ih := askT_bound h k (by omega)
    obtain ⟨d, hd⟩ : ∃ d, l[k]? = some d := ⟨_, List.getElem?_eq_getElem (by omega)⟩
    have hz := h k d hd
    have h1 := link_len hz
    have h2 := tstsT_len hz
    have h3 := name_len (stp_parts2 hz).1
    rw [askT_take hd, List.length_append, List.length_append, List.length_append]
    have h4 : (if k = 0 then [] else linkT d : List UInt8).length ≤ 14 := by
      split
      · simp
      · exact h1
    omega
theorem link_back {x : Stp} (h : x.back = true) : (⟨#[32, 60, 45]⟩ ++ x.bond ++ ⟨#[45, 32]⟩ : ByteArray) = bs (linkT x) := by
  show bs [32, 60, 45] ++ x.bond ++ bs [45, 32] = _
  conv => lhs; rw [← bs_of x.bond]
  rw [bs_append, bs_append]
  unfold linkT; rw [if_pos h]
theorem link_on {x : Stp} (h : x.back = false) : (⟨#[32, 45]⟩ ++ x.bond ++ ⟨#[45, 62, 32]⟩ : ByteArray) = bs (linkT x) := by
  show bs [32, 45] ++ x.bond ++ bs [45, 62, 32] = _
  conv => lhs; rw [← bs_of x.bond]
  rw [bs_append, bs_append]
  unfold linkT; rw [if_neg (by rw [h]; decide)]
theorem kind_text (k : ByteArray) (T t : List UInt8) : bs T ++ (k ++ bs t) = bs (T ++ (k.data.toList ++ t)) := by
  conv => lhs; rw [← bs_of k]
  rw [bs_append, bs_append]
set_option maxRecDepth 100000 in
set_option maxHeartbeats 8000000 in
theorem aprint_any (l : List Stp) (v : Value) (w : World) (hT : TxP w) (hS : SgnOk w) (hl : Sl stpL w v l) :
    Calls Tryd.prog 6 #[v] w fun e w' => e = .returned (.tuple #[.string (bs (if askE l = 0 then askT l else [])), errV (askE l)]) ∧ Below w.heap.size w w' := by
  have hx := apath_any l v w hl
  obtain ⟨A, c, rfl, _, hcm⟩ := hl.form
  unfold maxLen at hcm
  have HL := Lib.hid hl
  have HT := Lib.hid hT
  have HS := Lib.hid hS
  obtain ⟨R, hR⟩ : ∃ R, R = (if askE l = 0 then askT l else []) := ⟨_, rfl⟩
  rw [← hR]
  have HR := Lib.hid hR
  have HOK : Hid (askE l = 0 → l.length ≤ 6 ∧ ∀ k d, l[k]? = some d → stpE (decide (k = 0)) d = 0) := ask_parts2
  generalize askE l = ee at *
  clear hT hR hl hS
  go_enter Tryd.func6, Tryd.ntmps6
  go_wp2_with fail
  refine hx.mono ?_
  clear hx
  rintro e w1 ⟨rfl, hb1⟩
  by_cases hz : ee = 0
  case neg =>
    have HE : Hid (R = []) := by unfold Hid; rw [HR.out, if_neg hz]
    have HER := Lib.hid (errV_some hz)
    rw [errV_some hz]
    clear HR HOK hz
    go_wp2_with fail
    go_ret2
    exact ⟨by rw [HE.out, HER.out]; rfl, hb1⟩
  rw [errV_zero hz]
  have HE : Hid (R = askT l) := by unfold Hid; rw [HR.out, if_pos hz]
  obtain ⟨hl6, hok⟩ := HOK.out hz
  have HP := Lib.hid hok
  have HZ := Lib.hid hz
  have HL1 := Lib.hid (HL.out.below hb1)
  have HT1 := Lib.hid (HT.out.below hb1)
  have HS1 := Lib.hid (HS.out.below hb1)
  have HB1 := Lib.hid hb1
  clear hz HR HOK hok HL HT HS hb1
  go_wp2_with fail
  -- a loop: the mask [.k, .k, .y 2, .y 3, .k, .a, .y 6, .y 7, .y 8, .y 9, .k, .k, .k, .k, .k, .k, .k, .b, .y 18, .y 19, .y 20, .y 21, .y 22, .y 23, .y 24, .y 25, .y 26, .y 27, .y 28, .y 29, .y 30, .y 31, .y 32, .y 33, .y 34, .y 35, .y 36, .y 37, .y 38, .y 39, .y 40, .y 41, .y 42, .y 43, .y 44, .y 45, .y 46, .y 47, .y 48, .y 49, .y 50, .y 51, .y 52, .y 53, .y 54, .y 55, .y 56, .y 57, .k], the slots 5 17 0 0, the relation fun x5 i _ _ wr => ∃ k : Nat, k ≤ l.length ∧ i = .int .i64 k ∧ x5 = .string (bs (askT (l.take k))) ∧ Hid (Below w1.heap.size w1 wr), the measure fun _ i _ _ _ => l.length - (intOf i).toNat
  apply wp_loopm [.k, .k, .y 2, .y 3, .k, .a, .y 6, .y 7, .y 8, .y 9, .k, .k, .k, .k, .k, .k, .k, .b, .y 18, .y 19, .y 20, .y 21, .y 22, .y 23, .y 24, .y 25, .y 26, .y 27, .y 28, .y 29, .y 30, .y 31, .y 32, .y 33, .y 34, .y 35, .y 36, .y 37, .y 38, .y 39, .y 40, .y 41, .y 42, .y 43, .y 44, .y 45, .y 46, .y 47, .y 48, .y 49, .y 50, .y 51, .y 52, .y 53, .y 54, .y 55, .y 56, .y 57, .k] 5 17 0 0 (by decide +kernel) rfl (fun x5 i _ _ wr => ∃ k : Nat, k ≤ l.length ∧ i = .int .i64 k ∧ x5 = .string (bs (askT (l.take k))) ∧ Hid (Below w1.heap.size w1 wr)) (fun _ i _ _ _ => l.length - (intOf i).toNat) _ _ _ _ rfl rfl rfl rfl
  case start => exact ⟨0, Nat.zero_le _, rfl, rfl, Below.refl _ _⟩
  case round =>
    -- a round: the names u5 u17 _ _ (four), the world's name
    intro ff u5 u17 _ _ wr hrel
    dsimp only [spread]
    obtain ⟨k, hk, rfl, rfl, HB⟩ := hrel
    obtain ⟨wo, hwo⟩ : ∃ wo : World, wo = wr := ⟨_, rfl⟩
    subst hwo
    by_cases hlt : k < l.length
    · obtain ⟨d, hd⟩ : ∃ d, l[k]? = some d := ⟨_, List.getElem?_eq_getElem hlt⟩
      have hlt' : (k : Int) < (l.length : Int) := by omega
      obtain ⟨gb, o, rfl, u, hs1, hs2, hst, q0, q1, q2, q3⟩ := stp_at (HL1.out.below HB.out) hd
      obtain ⟨A2, c2, rfl, _, _⟩ := hst.form
      have hse := HP.out k d hd
      obtain ⟨hp1, hp2, hp3, hp4, hp5⟩ := stp_parts2 hse
      have hkl : d.kind.size ≤ 8 := by have := name_len hp1; rw [Array.length_toList] at this; exact this
      have hbl : d.bond.size ≤ 8 := by
        by_cases h : k = 0
        · rw [(hp4 (decide_eq_true h)).1]; decide
        · have := name_len (hp5 (decide_eq_false h)); rw [Array.length_toList] at this; exact this
      have HTK := Lib.hid (askT_take hd)
      have htl := askT_bound HP.out k (by omega)
      have hll := link_len hse
      have htt := tstsT_len hse
      obtain ⟨T, hTd⟩ : ∃ T, T = askT (l.take k) := ⟨_, rfl⟩
      obtain ⟨T2, hTd2⟩ : ∃ T2, T2 = askT (l.take (k + 1)) := ⟨_, rfl⟩
      rw [← hTd, ← hTd2] at HTK
      rw [← hTd] at htl ⊢
      have HT2 := Lib.hid hTd2
      have HTS := Lib.hid (fun wx hx1 hx2 hx3 => atests_any d.tests (.slice A2 d.tests.length c2) wx hx1 hx2 hx3 hp2 hp3)
      have hTs : (bs T).size ≤ 2640 := by rw [bs_size]; omega
      have HLS : Hid ((bs (if k = 0 then [] else linkT d)).size ≤ 14) := by
        unfold Hid; rw [bs_size]
        split
        · simp
        · exact hll
      have hSs : (bs (tstsT d.tests)).size ≤ 418 := by rw [bs_size]; exact htt
      have HLB := Lib.hid (link_back (x := d))
      have HLO := Lib.hid (link_on (x := d))
      have HKT : Hid (bs (T ++ (if k = 0 then [] else linkT d)) ++ (d.kind ++ bs (tstsT d.tests)) = bs T2) := by unfold Hid; rw [kind_text, List.append_assoc, ← HTK.out]
      have HAP : Hid (bs (T ++ (if k = 0 then [] else linkT d)) = bs T ++ bs (if k = 0 then [] else linkT d)) := by unfold Hid; rw [bs_append]
      have ha := (Below.refl wo.heap.size wo).alloc (Nat.le_refl _) (.cells #[.string d.bond, .bool d.back, .string d.kind, .slice A2 d.tests.length c2] 30)
      have hbk := heap_alloc_new wo (.cells #[.string d.bond, .bool d.back, .string d.kind, .slice A2 d.tests.length c2] 30)
      have HST := Lib.hid (hst.below ha)
      clear hd hse hp1 hp2 hp3 hp4 hp5 hk htl hll htt hTd hTd2 hst hs1 hs2
      go_upto_region 8 with fail
      generalize wo.alloc (.cells #[.string d.bond, .bool d.back, .string d.kind, .slice A2 d.tests.length c2] 30) = w3 at *
      clear q0 q1 q2 q3
      have HBK := Lib.hid hbk
      have HA := Lib.hid ha
      clear hbk ha
      have y1 := block_cell HBK.out 1
      -- a cut: the mask [.k, .k, .k, .k, .k, .k, .k, .k, .k, .k, .k, .k, .k, .k, .k, .k, .k, .k, .k, .k, .k, .k, .y 22, .y 23, .y 24, .y 25, .y 26, .a, .k, .k, .k, .k, .k, .k, .k, .k, .k, .k, .k, .k, .k, .k, .k, .k, .k, .k, .k, .k, .k, .k, .k, .k, .k, .k, .k, .k, .k, .k, .k], the slots 27 0 0 0, the relation fun v _ _ _ wx => v = .bool (decide (0 < k) && d.back) ∧ wx = w3
      apply wp_cutm [.k, .k, .k, .k, .k, .k, .k, .k, .k, .k, .k, .k, .k, .k, .k, .k, .k, .k, .k, .k, .k, .k, .y 22, .y 23, .y 24, .y 25, .y 26, .a, .k, .k, .k, .k, .k, .k, .k, .k, .k, .k, .k, .k, .k, .k, .k, .k, .k, .k, .k, .k, .k, .k, .k, .k, .k, .k, .k, .k, .k, .k, .k] 27 0 0 0 (by decide +kernel) (fun v _ _ _ wx => v = .bool (decide (0 < k) && d.back) ∧ wx = w3)
      case first =>
        -- within a cut
        intro JJ KK hmeet hnext
        -- of what is to be done behind only the innermost is kept
        rename ∀ (a : Act) (w : World), Code.wp _ _ _ a w → _ => hkeep
        revert hkeep
        repeat (rename ∀ (a : Act) (w : World), Code.wp _ _ _ a w → _ => hz; clear hz)
        intro hkeep
        by_cases h : 0 < k
        · have h' : (0 : Int) < (k : Int) := by omega
          have HD := Lib.hid (decide_eq_true h)
          clear h
          go_wp2_with fail
          -- a way's end
          refine Met.intro ?_
          go_step
          refine Forgot.at _ _ _ _ _ rfl rfl rfl rfl rfl rfl ?_
          exact ⟨by rw [HD.out]; rfl, rfl⟩
        · have h' : ¬ (0 : Int) < (k : Int) := by omega
          have HD := Lib.hid (decide_eq_false h)
          clear h
          go_wp2_with fail
          -- a way's end
          refine Met.intro ?_
          go_step
          refine Forgot.at _ _ _ _ _ rfl rfl rfl rfl rfl rfl ?_
          exact ⟨by rw [HD.out]; rfl, rfl⟩
      case rest =>
      -- behind a cut: the names of the slots' values u27 _ _ _ (four)
      intro ff u27 _ _ _ wc hcut
      dsimp only [spread]
      obtain ⟨rfl, hw⟩ := hcut
      obtain ⟨w4, hw4⟩ : ∃ y : World, y = wc := ⟨_, rfl⟩
      subst hw4
      rw [← hw] at HBK HA HST
      clear hw y1
      have y0 := block_cell HBK.out 0
      go_upto_if 27 with fail
      -- a cut: the mask [.k, .k, .k, .k, .k, .a, .k, .k, .k, .k, .k, .k, .k, .k, .k, .k, .k, .k, .k, .k, .k, .y 21, .k, .k, .k, .k, .k, .y 27, .y 28, .y 29, .y 30, .y 31, .y 32, .y 33, .y 34, .y 35, .y 36, .y 37, .y 38, .y 39, .y 40, .y 41, .k, .k, .k, .k, .k, .k, .k, .k, .k, .k, .k, .k, .k, .k, .k, .k, .k], the slots 5 0 0 0, the relation fun v _ _ _ wx => v = .string (bs (T ++ (if k = 0 then [] else linkT d))) ∧ wx = w4
      apply wp_cutm [.k, .k, .k, .k, .k, .a, .k, .k, .k, .k, .k, .k, .k, .k, .k, .k, .k, .k, .k, .k, .k, .y 21, .k, .k, .k, .k, .k, .y 27, .y 28, .y 29, .y 30, .y 31, .y 32, .y 33, .y 34, .y 35, .y 36, .y 37, .y 38, .y 39, .y 40, .y 41, .k, .k, .k, .k, .k, .k, .k, .k, .k, .k, .k, .k, .k, .k, .k, .k, .k] 5 0 0 0 (by decide +kernel) (fun v _ _ _ wx => v = .string (bs (T ++ (if k = 0 then [] else linkT d))) ∧ wx = w4)
      case first =>
        -- within a cut
        intro JJ KK hmeet hnext
        -- of what is to be done behind only the innermost is kept
        rename ∀ (a : Act) (w : World), Code.wp _ _ _ a w → _ => hkeep
        revert hkeep
        repeat (rename ∀ (a : Act) (w : World), Code.wp _ _ _ a w → _ => hz; clear hz)
        intro hkeep
        by_cases h : 0 < k
        · have h' : (0 : Int) < (k : Int) := by omega
          have hk0 : ¬ k = 0 := by omega
          rw [decide_eq_true h, Bool.true_and]
          have HE1 : Hid (bs (T ++ (if k = 0 then [] else linkT d)) = bs T ++ bs (linkT d)) := by unfold Hid; rw [if_neg hk0, bs_append]
          have HLK : Hid ((bs (linkT d)).size ≤ 14) := by have := HLS.out; rw [if_neg hk0] at this; exact this
          cases hbk : d.back with
          | true =>
            have HX := Lib.hid (HLB.out hbk)
            have c1 : ¬ 9223372036854775807 < 3 + d.bond.size := by omega
            have c2 : ¬ 9223372036854775807 < 3 + d.bond.size + 2 := by omega
            have c3 : ¬ 9223372036854775807 < (bs T).size + (3 + d.bond.size + 2) := by omega
            clear h hk0 hbk
            go_wp2_with fail
            -- a way's end
            refine Met.intro ?_
            go_step
            refine Forgot.at _ _ _ _ _ rfl rfl rfl rfl rfl rfl ?_
            exact ⟨by rw [HE1.out, ← HX.out], rfl⟩
          | false =>
            have HX := Lib.hid (HLO.out hbk)
            have c1 : ¬ 9223372036854775807 < 2 + d.bond.size := by omega
            have c2 : ¬ 9223372036854775807 < 2 + d.bond.size + 3 := by omega
            have c3 : ¬ 9223372036854775807 < (bs T).size + (2 + d.bond.size + 3) := by omega
            clear h hk0 hbk
            go_wp2_with fail
            -- a way's end
            refine Met.intro ?_
            go_step
            refine Forgot.at _ _ _ _ _ rfl rfl rfl rfl rfl rfl ?_
            exact ⟨by rw [HE1.out, ← HX.out], rfl⟩
        · have h' : ¬ (0 : Int) < (k : Int) := by omega
          have hk0 : k = 0 := by omega
          have HE1 : Hid (bs (T ++ (if k = 0 then [] else linkT d)) = bs T) := by unfold Hid; rw [if_pos hk0, List.append_nil]
          rw [decide_eq_false h, Bool.false_and]
          clear h hk0
          go_wp2_with fail
          -- a way's end
          refine Met.intro ?_
          go_step
          refine Forgot.at _ _ _ _ _ rfl rfl rfl rfl rfl rfl ?_
          exact ⟨by rw [HE1.out], rfl⟩
      case rest =>
      -- behind a cut: the names of the slots' values u5 _ _ _ (four)
      intro ff u5 _ _ _ wc hcut
      dsimp only [spread]
      obtain ⟨rfl, hw⟩ := hcut
      obtain ⟨w5, hw5⟩ : ∃ y : World, y = wc := ⟨_, rfl⟩
      subst hw5
      rw [← hw] at HBK HA HST
      clear hw y0
      have y3 := block_cell HBK.out 3
      have HB5 := Lib.hid (HB.out.trans (HA.out.mono HB.out.size))
      have hx := HTS.out w5 (HT1.out.below HB5.out) (HS1.out.below HB5.out) HST.out
      have hps : (bs (T ++ (if k = 0 then [] else linkT d))).size ≤ 2654 := by
        rw [HAP.out, ByteArray.size_append]; have := HLS.out; omega
      clear HAP HLS HLB HLO HTS
      generalize bs (T ++ (if k = 0 then [] else linkT d)) = pre at *
      generalize bs (tstsT d.tests) = tx at *
      go_wp2_with fail
      refine hx.mono ?_
      clear hx y3
      rintro e w6 ⟨rfl, hb6⟩
      have HBK6 := Lib.hid ((hb6.block _ (Array.getElem?_eq_some_iff.1 HBK.out).1).trans HBK.out)
      have HB6 := Lib.hid (HB5.out.trans (hb6.mono HB5.out.size))
      have y2 := block_cell HBK6.out 2
      have c1 : ¬ 9223372036854775807 < d.kind.size + tx.size := by omega
      have c2 : ¬ 9223372036854775807 < pre.size + (d.kind.size + tx.size) := by omega
      clear hb6
      go_wp2_with fail
      -- a round's end: the relation, the measure
      apply Rounded.at _ _ _ _ _ rfl rfl rfl rfl rfl rfl
      case rel => exact ⟨k + 1, by omega, by go_num, by rw [← HT2.out, ← HKT.out], HB6⟩
      case measure => simp [intOf]; omega
    · obtain rfl : k = l.length := by omega
      have HE2 : Hid (bs (askT (l.take l.length)) = bs R) := by unfold Hid; rw [List.take_length, HE.out]
      rw [HE2.out]
      clear hlt
      go_wp2_with fail
      go_ret2
      exact ⟨by rw [errV_zero HZ.out]; rfl, HB1.out.trans (HB.out.mono HB1.out.size)⟩
end Go.Proofs.YtakidgndipnciaaDoor
