/- Parts: RcA. -/
import Derived.Test.YtmbeeaohidgfgaaGreatDoorMg08
import Derived.Test.YtmbeeaohidgfgaaGreatDoorMg11
import Derived.Test.YtmbeeaohidgfgaaGreatDoorMg05
import Derived.Test.YtmbeeaohidgfgaaGreatDoorMg06
/- Contract: record.Cut: a text cut at a sign that is in no quotes. Conditions: the text is not too long; the sign is no quote. -/
namespace Go.Proofs.YtmbeeaohidgfgaaGreatDoor
open Go Go.RowKit

theorem take_more {l : List UInt8} {f k : Nat} {x : UInt8} (hf : f ≤ k) (hx : l[k]? = some x) : (l.drop f).take (k + 1 - f) = (l.drop f).take (k - f) ++ [x] := by
  have e : k + 1 - f = (k - f) + 1 := by omega
  rw [e, List.take_add_one, List.getElem?_drop]
  have e2 : f + (k - f) = k := by omega
  rw [e2, hx]; rfl
theorem drop_one {l : List UInt8} {k : Nat} {x : UInt8} (hx : l[k]? = some x) : l.drop k = x :: l.drop (k + 1) := by
  have hlt := (List.getElem?_eq_some_iff.1 hx).1
  rw [List.drop_eq_getElem_cons hlt]
  have := (List.getElem?_eq_some_iff.1 hx).2
  rw [this]
theorem ext_list (s : ByteArray) (f k : Nat) : s.extract f k = bs ((s.data.toList.drop f).take (k - f)) := by
  rw [← bs_of (s.extract f k), Lib.extract_data]
theorem flat_wv : ∀ xs : List (List UInt8), (xs.map bs).flatMap (fun s => [Value.string s]) = wv xs
  | [] => rfl
  | x :: xs => by
    have ih := flat_wv xs
    unfold wv at ih ⊢
    rw [List.map_cons, List.flatMap_cons, ih]; rfl
theorem own_words {w : World} {B : Nat} {v : Value} {xs : List (List UInt8)} (h : Own w B 9 1 v xs.length (wv xs)) (hl : ∀ x ∈ xs, x.length ≤ 1048576) : Sl strL w v (xs.map bs) := by
  have h2 : Own w B 9 1 v (xs.map bs).length ((xs.map bs).flatMap fun s => [.string s]) := by
    have e : (xs.map bs).flatMap (fun s => [Value.string s]) = wv xs := flat_wv xs
    rw [e, List.length_map]; exact h
  refine Own.flat (enc := fun s : ByteArray => [Value.string s]) (n := 1) (ok := Sm) (fun _ => rfl) (fun x hx => ?_) h2
  · obtain ⟨y, hy, rfl⟩ := List.mem_map.1 hx
    unfold Sm; rw [bs_size]; exact hl y hy
theorem cutF_lens (c : UInt8) : ∀ (l : List UInt8) (q : Bool) (cur : List UInt8), ∀ x ∈ cutF c q cur l, x.length ≤ cur.length + l.length
  | [], q, cur, x, hx => by rcases List.mem_singleton.1 hx with rfl; simp
  | y :: l, q, cur, x, hx => by
    rw [cutF_cons] at hx
    split at hx
    · have := cutF_lens c l _ _ x hx; simp at *; omega
    · split at hx
      · rcases List.mem_cons.1 hx with rfl | hx
        · simp
        · have := cutF_lens c l _ _ x hx; simp at *; omega
      · have := cutF_lens c l _ _ x hx; simp at *; omega
set_option maxHeartbeats 4000000 in
theorem cut_any (s : ByteArray) (c : UInt8) (w : World) (hs : Sm s) :
    Calls Tryz.prog 26 #[.string s, .int .u8 c.toNat] w fun e w' => ∃ A k, e = .returned (.slice A (cutL c s.data.toList).length k) ∧ Sl strL w' (.slice A (cutL c s.data.toList).length k) ((cutL c s.data.toList).map bs) ∧ Below w.heap.size w w' := by
  obtain ⟨i0, ei, ez, ez1, ez2⟩ := info_parts str_info
  have hle : s.data.toList.length = s.size := by rw [Array.length_toList]; rfl
  unfold Sm at hs
  have HLE := Lib.hid hle
  have HLN : Hid (∀ x ∈ cutL c s.data.toList, x.length ≤ 1048576) := fun x hx => by
    have := cutF_lens c s.data.toList false [] x hx
    simp at this
    omega
  clear hle
  go_enter Tryz.func26, Tryz.ntmps26
  go_wp2_with fail
  go_loopw [4, 5, 6, 7, 10, 13, 20] (fun x4 x5 x6 _ x10 _ _ wr => ∃ (k f : Nat) (done : List (List UInt8)) (q : Bool), k ≤ s.size ∧ f ≤ k ∧ done.length ≤ k ∧ x10 = .int .i64 k ∧ x5 = .int .i64 f ∧ x6 = .bool q ∧ Below w.heap.size w wr ∧ Hid (Own wr w.heap.size 9 1 x4 done.length (wv done)) ∧ Hid (done ++ cutF c q ((s.data.toList.drop f).take (k - f)) (s.data.toList.drop k) = cutL c s.data.toList)) (fun _ _ _ _ i _ _ _ => s.size - (intOf i).toNat)
  case atStart => exact ⟨0, 0, [], false, Nat.zero_le _, Nat.le_refl _, Nat.le_refl _, rfl, rfl, rfl, Below.refl _ _, Own.nil _ _ _ _, rfl⟩
  case round =>
    obtain ⟨k, f, done, q, hk, hfk, hdk, rfl, rfl, rfl, hbr, HO, HX⟩ := hrel
    obtain ⟨wo, hwo⟩ : ∃ wo : World, wo = wr := ⟨_, rfl⟩
    subst hwo
    obtain ⟨A4, c4, rfl, hc4, _⟩ := HO.out.form
    by_cases hlt : k < s.size
    · have hlt' : (k : Int) < (s.size : Int) := by omega
      have hx : s.data.toList[k]? = some s[k] := by
        rw [List.getElem?_eq_getElem (by rw [HLE.out]; exact hlt)]; rfl
      have HX1 := Lib.hid (take_more hfk hx)
      have HX2 := Lib.hid (drop_one hx)
      have HST : Hid (done ++ cutF c q ((s.data.toList.drop f).take (k - f)) (s[k] :: s.data.toList.drop (k + 1)) = cutL c s.data.toList) := by
        unfold Hid; rw [← HX2.out]; exact HX.out
      generalize hsk : s[k] = x at *
      have HSK := Lib.hid hsk
      clear hx HX HX2
      by_cases h39 : x = 39
      · have hb39 : ((s[k].toNat : Int) == 39) = true := by rw [HSK.out, h39]; rfl
        have HN : Hid (done ++ cutF c (!q) ((s.data.toList.drop f).take (k + 1 - f)) (s.data.toList.drop (k + 1)) = cutL c s.data.toList) := by
          unfold Hid; rw [HX1.out, ← HST.out, cutF_cons, if_pos h39]
        clear h39 hsk HST HX1
        go_wp2_with fail
        go_roundw
        case rel => exact ⟨k + 1, f, done, !q, by omega, by omega, by omega, by go_num, rfl, rfl, hbr, HO, HN⟩
        case measure => simp [intOf]; omega
      · have hb39 : ((s[k].toNat : Int) == 39) = false := by
          rw [HSK.out, beq_eq_false_iff_ne]
          intro e
          exact h39 (UInt8.toNat_inj.1 (by show x.toNat = 39; omega))
        by_cases hc : x = c
        · have hbc : ((s[k].toNat : Int) == (c.toNat : Int)) = true := by rw [HSK.out, hc]; simp
          cases q with
          | true =>
            have HN : Hid (done ++ cutF c true ((s.data.toList.drop f).take (k + 1 - f)) (s.data.toList.drop (k + 1)) = cutL c s.data.toList) := by
              unfold Hid; rw [HX1.out, ← HST.out, cutF_cons, if_neg h39, if_neg (fun e => by cases e.2)]
            clear h39 hsk HST HX1 hc
            go_wp2_with fail
            go_roundw
            case rel => exact ⟨k + 1, f, done, true, by omega, by omega, by omega, by go_num, rfl, rfl, hbr, HO, HN⟩
            case measure => simp [intOf]; omega
          | false =>
            have HN : Hid ((done ++ [(s.data.toList.drop f).take (k - f)]) ++ cutF c false ((s.data.toList.drop (k + 1)).take (k + 1 - (k + 1))) (s.data.toList.drop (k + 1)) = cutL c s.data.toList) := by
              unfold Hid; rw [← HST.out, cutF_cons, if_neg h39, if_pos ⟨hc, rfl⟩]; simp
            clear h39 hsk HST HX1 hc
            -- an append of s[f:k]: 30, 35: the temporaries; wo: the world; k: the piece's end, spelled
            have HOA : Hid (Own (wo.alloc (.cells #[.string (s.extract f k)] 9)) w.heap.size 9 1 (.slice A4 done.length c4) done.length (wv done)) := HO.out.alloc _
            have HN : Hid (∀ j u, ([.string (s.extract f k)] : List Value)[j]? = some u → (wo.alloc (.cells #[.string (s.extract f k)] 9)).cell? ⟨wo.heap.size, j, none⟩ = some u) := fun j u hj => by
              rw [World.cell?_alloc_at _ _ _ _ rfl]; simpa using hj
            have hA4 := hbr.alloc hbr.size (.cells #[.string (s.extract f k)] 9)
            clear hbr HO
            go_wp2_with (at_builtin; refine wpList_append_q _ rfl (.tmp 30) (.tmp 35) _ rfl w.heap.size 9 i0 (.string .empty) 1 16 Tryz.underlying50 ei ez ez1 ez2 rfl (by decide) (.slice A4 done.length c4) done.length (wv done) rfl HOA.out (some ⟨wo.heap.size, 0, none⟩) 1 1 [.string (s.extract f k)] rfl rfl (fun _ => ⟨_, rfl, fun j u hj => by rw [addr_add, Nat.zero_add]; exact HN.out j u hj⟩) (fun u hu => by simp at hu; subst hu; rfl) (by unfold maxLen; omega) (by omega) (by have := hA4.size; exact this) ?_; intro v9 w9 hown9 hg9 hat9)
            have hB9 : Below w.heap.size w w9 := hA4.grown hg9 hA4.size (fun kk e => (HOA.out.lt kk e).1)
            have HO9 : Hid (Own w9 w.heap.size 9 1 v9 (done.length + 1) (wv (done ++ [(s.data.toList.drop f).take (k - f)]))) := by
              unfold Hid wv
              rw [List.map_append]
              have h := hown9
              rw [ext_list] at h
              exact h
            clear hg9 hat9 hown9 HOA HN hA4
            go_wp2_with fail
            go_roundw
            case rel => exact ⟨k + 1, k + 1, done ++ [(s.data.toList.drop f).take (k - f)], false, by omega, by omega, by simp; omega, by go_num, by go_num, rfl, hB9, by rw [List.length_append]; exact HO9, HN⟩
            case measure => simp [intOf]; omega
        · have hbc : ((s[k].toNat : Int) == (c.toNat : Int)) = false := by
            rw [HSK.out, beq_eq_false_iff_ne]
            intro e
            exact hc (UInt8.toNat_inj.1 (by omega))
          have HN : Hid (done ++ cutF c q ((s.data.toList.drop f).take (k + 1 - f)) (s.data.toList.drop (k + 1)) = cutL c s.data.toList) := by
            unfold Hid; rw [HX1.out, ← HST.out, cutF_cons, if_neg h39, if_neg (fun e => hc e.1)]
          clear h39 hsk HST HX1 hc
          go_wp2_with fail
          go_roundw
          case rel => exact ⟨k + 1, f, done, q, by omega, by omega, by omega, by go_num, rfl, rfl, hbr, HO, HN⟩
          case measure => simp [intOf]; omega
    · obtain rfl : k = s.size := by omega
      have hdn : decide (s.size < s.size) = false := by simp
      have HN : Hid (done ++ [(s.data.toList.drop f).take (s.size - f)] = cutL c s.data.toList) := by
        have h := HX.out
        have e : s.data.toList.drop s.size = [] := List.drop_eq_nil_of_le (by rw [HLE.out]; exact Nat.le_refl _)
        rw [e] at h
        exact h
      clear hlt hk HX
      -- an append of s[f:s.size]: 40, 44: the temporaries; wo: the world; s.size: the piece's end, spelled
      have HOA : Hid (Own (wo.alloc (.cells #[.string (s.extract f s.size)] 9)) w.heap.size 9 1 (.slice A4 done.length c4) done.length (wv done)) := HO.out.alloc _
      have HN : Hid (∀ j u, ([.string (s.extract f s.size)] : List Value)[j]? = some u → (wo.alloc (.cells #[.string (s.extract f s.size)] 9)).cell? ⟨wo.heap.size, j, none⟩ = some u) := fun j u hj => by
        rw [World.cell?_alloc_at _ _ _ _ rfl]; simpa using hj
      have hA4 := hbr.alloc hbr.size (.cells #[.string (s.extract f s.size)] 9)
      clear hbr HO
      go_wp2_with (at_builtin; refine wpList_append_q _ rfl (.tmp 40) (.tmp 44) _ rfl w.heap.size 9 i0 (.string .empty) 1 16 Tryz.underlying50 ei ez ez1 ez2 rfl (by decide) (.slice A4 done.length c4) done.length (wv done) rfl HOA.out (some ⟨wo.heap.size, 0, none⟩) 1 1 [.string (s.extract f s.size)] rfl rfl (fun _ => ⟨_, rfl, fun j u hj => by rw [addr_add, Nat.zero_add]; exact HN.out j u hj⟩) (fun u hu => by simp at hu; subst hu; rfl) (by unfold maxLen; omega) (by omega) (by have := hA4.size; exact this) ?_; intro v9 w9 hown9 hg9 hat9)
      have hB9 : Below w.heap.size w w9 := hA4.grown hg9 hA4.size (fun kk e => (HOA.out.lt kk e).1)
      have HO9 : Hid (Own w9 w.heap.size 9 1 v9 (done.length + 1) (wv (done ++ [(s.data.toList.drop f).take (s.size - f)]))) := by
        unfold Hid wv
        rw [List.map_append]
        have h := hown9
        rw [ext_list] at h
        exact h
      clear hg9 hat9 hown9 HOA HN hA4
      go_wp2_with fail
      have hn9 : done.length + 1 = (cutL c s.data.toList).length := by rw [← HN.out]; simp
      obtain ⟨A9, c9, rfl, _, _⟩ := HO9.out.form
      have HF : Hid (Sl strL w9 (.slice A9 (cutL c s.data.toList).length c9) ((cutL c s.data.toList).map bs)) := by
        have h := HO9.out
        rw [HN.out, hn9] at h
        exact own_words h HLN.out
      have HN9 := Lib.hid hn9
      clear hn9 HN HO9 HLN
      go_ret
      exact ⟨A9, c9, by first | rfl | (rw [HN9.out]; rfl), HF.out, hB9⟩
end Go.Proofs.YtmbeeaohidgfgaaGreatDoor
