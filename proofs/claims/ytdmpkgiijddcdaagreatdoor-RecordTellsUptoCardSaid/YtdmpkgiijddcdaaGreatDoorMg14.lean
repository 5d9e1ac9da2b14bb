/- Parts: VqP, RcC, DgA. -/
import Derived.Test.YtdmpkgiijddcdaaGreatDoorMg10
import Derived.Test.YtdmpkgiijddcdaaGreatDoorMg11
import Derived.IntWalk
/- Plain: what the reference reads between quotes, and of digits. No condition. -/
namespace Go.Proofs.YtdmpkgiijddcdaaGreatDoor
open Go

/-- What the reference reads behind a quote; none: it is no text. -/
def qrd : List UInt8 → Option (List UInt8)
  | [] => none
  | [c] => if strC c = true then none else if c = 39 then some [] else none
  | c :: d :: m => if strC c = true then none else if c = 39 then (if d = 39 then (qrd m).map (39 :: ·) else none) else (qrd (d :: m)).map (c :: ·)
theorem qrd_bad {c : UInt8} (l : List UInt8) (h : strC c = true) : qrd (c :: l) = none := by
  cases l with
  | nil => rw [qrd, if_pos h]
  | cons d m => rw [qrd, if_pos h]
theorem qrd_end : qrd [39] = some [] := by rw [qrd, if_neg (by decide), if_pos rfl]
theorem qrd_wrong {d : UInt8} (m : List UInt8) (h : d ≠ 39) : qrd (39 :: d :: m) = none := by rw [qrd, if_neg (by decide), if_pos rfl, if_neg h]
theorem qrd_quote (m : List UInt8) : qrd (39 :: 39 :: m) = (qrd m).map (39 :: ·) := by rw [qrd, if_neg (by decide), if_pos rfl, if_pos rfl]
theorem qrd_plain {c : UInt8} (l : List UInt8) (h : strC c = false) (h2 : c ≠ 39) : qrd (c :: l) = (qrd l).map (c :: ·) := by
  cases l with
  | nil =>
    show (if strC c = true then none else if c = 39 then some [] else none) = _
    rw [if_neg (by rw [h]; simp), if_neg h2]; rfl
  | cons d m => rw [qrd, if_neg (by rw [h]; simp), if_neg h2]
theorem qrd_dbl : ∀ u : List UInt8, u.any strC = false → qrd (dbl u ++ [39]) = some u
  | [], _ => qrd_end
  | c :: u, h => by
    rw [List.any_cons, Bool.or_eq_false_iff] at h
    have ih := qrd_dbl u h.2
    rw [dbl_cons]
    by_cases hc : c = 39
    · subst hc
      rw [if_pos rfl]
      show qrd (39 :: 39 :: (dbl u ++ [39])) = _
      rw [qrd_quote, ih]; rfl
    · rw [if_neg hc]
      show qrd (c :: (dbl u ++ [39])) = _
      rw [qrd_plain _ h.1 hc, ih]; rfl
theorem qrd_of : ∀ (n : Nat) (r u : List UInt8), r.length ≤ n → qrd r = some u → r = dbl u ++ [39] ∧ u.any strC = false
  | _, [], u, _, h => by rw [qrd] at h; cases h
  | 0, _ :: _, _, hn, _ => by simp at hn
  | n + 1, c :: l, u, hn, h => by
    cases hs : strC c with
    | true => rw [qrd_bad l hs] at h; cases h
    | false =>
      by_cases hc : c = 39
      · subst hc
        cases l with
        | nil => rw [qrd_end] at h; obtain rfl := Option.some.inj h; exact ⟨rfl, rfl⟩
        | cons d m =>
          by_cases hd : d = 39
          · subst hd
            rw [qrd_quote] at h
            obtain ⟨v, hv, rfl⟩ := Option.map_eq_some_iff.1 h
            obtain ⟨e, k⟩ := qrd_of n m v (by simp at hn; omega) hv
            refine ⟨?_, ?_⟩
            · rw [dbl_quote, e]; rfl
            · rw [List.any_cons, hs, k]; rfl
          · rw [qrd_wrong m hd] at h; cases h
      · rw [qrd_plain l hs hc] at h
        obtain ⟨v, hv, rfl⟩ := Option.map_eq_some_iff.1 h
        obtain ⟨e, k⟩ := qrd_of n l v (by simp at hn; omega) hv
        refine ⟨?_, ?_⟩
        · rw [dbl_cons, if_neg hc, e]; rfl
        · rw [List.any_cons, hs, k]; rfl
theorem quot_qrd (r : List UInt8) : (quotB (39 :: r) = true ↔ ∃ u, qrd r = some u) ∧ ∀ u, qrd r = some u → bodyL (39 :: r) = u := by
  constructor
  · rw [quot_iff]
    constructor
    · rintro ⟨u, e, h⟩
      injection e with _ e
      exact ⟨u, by rw [e]; exact qrd_dbl u h⟩
    · rintro ⟨u, h⟩
      obtain ⟨e, k⟩ := qrd_of _ r u (Nat.le_refl _) h
      exact ⟨u, by rw [e], k⟩
  · intro u h
    obtain ⟨e, k⟩ := qrd_of _ r u (Nat.le_refl _) h
    rw [e, body_of]
theorem head_words {r : List UInt8} : ¬ (39 :: r = falseL ∨ 39 :: r = trueL) := by
  rintro (h | h) <;> (injection h with h _; exact absurd h (by decide))
theorem read_quote (r : List UInt8) : readE (39 :: r) = (match qrd r with | none => 2 | some u => if 20 < u.length then 4 else 0) := by
  obtain ⟨h1, h2⟩ := quot_qrd r
  unfold readE
  rw [if_neg head_words, if_pos (show (39 :: r : List UInt8).head? = some 39 from rfl)]
  cases hq : qrd r with
  | none =>
    rw [if_neg (fun e => by obtain ⟨u, hu⟩ := h1.1 e; rw [hq] at hu; cases hu)]
  | some u =>
    rw [if_pos (h1.2 ⟨u, hq⟩), h2 u hq]
theorem readV_quote {r u : List UInt8} (h : qrd r = some u) (hl : ¬ 20 < u.length) : readV (39 :: r) = ⟨3, 0, bs u⟩ := by
  have hE : readE (39 :: r) = 0 := by rw [read_quote, h]; exact if_neg hl
  unfold readV
  rw [if_neg (fun e => e hE), if_neg (fun e => head_words (.inl e)), if_neg (fun e => head_words (.inr e)), if_pos (show (39 :: r : List UInt8).head? = some 39 from rfl), (quot_qrd r).2 u h]
/-- A text that is no word and has no quote at its head. -/
theorem read_num {l : List UInt8} (h1 : ¬ (l = falseL ∨ l = trueL)) (h2 : l.head? ≠ some 39) : readE l = (match intL9 l with | some n => if n < -1000000 ∨ 1000000 < n then 1 else 0 | none => 2) ∧ ∀ n, intL9 l = some n → readE l = 0 → readV l = ⟨1, n, .empty⟩ := by
  constructor
  · unfold readE
    rw [if_neg h1, if_neg h2]
    cases intL9 l <;> rfl
  · intro n hn hE
    unfold readV
    rw [if_neg (fun e => e hE), if_neg (fun e => h1 (.inl e)), if_neg (fun e => h1 (.inr e)), if_neg h2, hn]
/-- Digit by digit. -/
theorem decFrom_bad {l : List UInt8} {x : UInt8} {n : Nat} (h : Lib.digitVal x = none) : Lib.decFrom n (x :: l) = none := by rw [decFrom_cons, h]
theorem decFrom_good {l : List UInt8} {x : UInt8} {n d : Nat} (h : Lib.digitVal x = some d) : Lib.decFrom n (x :: l) = Lib.decFrom (n * 10 + d) l := by rw [decFrom_cons, h]
theorem digit_none {x : UInt8} (h : x.toNat < 48 ∨ 57 < x.toNat) : Lib.digitVal x = none := by
  unfold Lib.digitVal
  rw [if_neg (by omega)]
theorem digit_some {x : UInt8} (h1 : 48 ≤ x.toNat) (h2 : x.toNat ≤ 57) : Lib.digitVal x = some (x.toNat - 48) := by
  unfold Lib.digitVal
  rw [if_pos ⟨h1, h2⟩]
theorem drop_cons_of {l : List UInt8} {k : Nat} {x : UInt8} (h : l[k]? = some x) : l.drop k = x :: l.drop (k + 1) := by
  obtain ⟨hk, e⟩ := List.getElem?_eq_some_iff.1 h
  rw [List.drop_eq_getElem_cons hk, e]
open Go Go.RowKit

/-- Cut at each that is in no quotes, if these count. -/
def rcutG (c : UInt8) (qs : Bool) : Bool → List UInt8 → List UInt8 → List (List UInt8)
  | _, cur, [] => [cur]
  | q, cur, x :: l => if x = 39 then rcutG c qs (q != qs) (cur ++ [x]) l else if x = c ∧ q = false then cur :: rcutG c qs false [] l else rcutG c qs q (cur ++ [x]) l
theorem rcutG_cons (c : UInt8) (qs q : Bool) (cur : List UInt8) (x : UInt8) (l : List UInt8) : rcutG c qs q cur (x :: l) = if x = 39 then rcutG c qs (q != qs) (cur ++ [x]) l else if x = c ∧ q = false then cur :: rcutG c qs false [] l else rcutG c qs q (cur ++ [x]) l := rfl
def rcutL (c : UInt8) (qs : Bool) (l : List UInt8) : List (List UInt8) := rcutG c qs false [] l
theorem rcutG_true (c : UInt8) : ∀ (l : List UInt8) (q : Bool) (cur : List UInt8), rcutG c true q cur l = cutF c q cur l
  | [], _, _ => rfl
  | x :: l, q, cur => by
    rw [rcutG_cons, cutF_cons, rcutG_true c l, rcutG_true c l, rcutG_true c l]
    cases q <;> rfl
theorem rcut_quotes (c : UInt8) (l : List UInt8) : rcutL c true l = cutL c l := rcutG_true c l _ _
set_option maxRecDepth 100000 in
set_option maxHeartbeats 8000000 in
theorem rcut_any (s : ByteArray) (c : UInt8) (hc39 : c ≠ 39) (qs : Bool) (w : World) (hs : Sm s) :
    Calls Tryz.prog 81 #[.string s, .int .u8 c.toNat, .bool qs] w fun e w' => ∃ A k, e = .returned (.slice A (rcutL c qs s.data.toList).length k) ∧ Own w' w.heap.size 9 1 (.slice A (rcutL c qs s.data.toList).length k) (rcutL c qs s.data.toList).length (wv (rcutL c qs s.data.toList)) ∧ Below w.heap.size w w' := by
  obtain ⟨i0, ei, ez, ez1, ez2⟩ := info_parts str_info
  have hle : s.data.toList.length = s.size := by rw [Array.length_toList]; rfl
  unfold Sm at hs
  have HLE := Lib.hid hle
  clear hle
  go_enter Tryz.func81, Tryz.ntmps81
  go_wp2_with fail
  go_loopw [7, 8, 9, 10] (fun x7 x8 x9 x10 wr => ∃ (k f : Nat) (done : List (List UInt8)) (q : Bool), k ≤ s.size ∧ f ≤ k ∧ done.length ≤ k ∧ x10 = .int .i64 k ∧ x8 = .int .i64 f ∧ x9 = .bool q ∧ Below w.heap.size w wr ∧ Hid (Own wr w.heap.size 9 1 x7 done.length (wv done)) ∧ Hid (done ++ rcutG c qs q ((s.data.toList.drop f).take (k - f)) (s.data.toList.drop k) = rcutL c qs s.data.toList)) (fun _ _ _ x10 _ => s.size - (intOf x10).toNat)
  case atStart => exact ⟨0, 0, [], false, Nat.zero_le _, Nat.le_refl _, Nat.le_refl _, rfl, rfl, rfl, Below.refl _ _, Own.nil _ _ _ _, rfl⟩
  case round =>
    obtain ⟨k, f, done, q, hk, hfk, hdk, rfl, rfl, rfl, hbr, HO, HX⟩ := hrel
    obtain ⟨wo, hwo⟩ : ∃ wo : World, wo = wr := ⟨_, rfl⟩
    subst hwo
    obtain ⟨A4, c4, rfl, hc4, _⟩ := HO.out.form
    by_cases hlt : k < s.size
    · have hlt' : (k : Int) < (s.size : Int) := by omega
      have hx : s.data.toList[k]? = some s[k] := by
        rw [List.getElem?_eq_getElem (by rw [HLE.out]; exact hlt)]; rfl
      have HX1 := Lib.hid (take_more hfk hx)
      have HX2 := Lib.hid (drop_one hx)
      have HST : Hid (done ++ rcutG c qs q ((s.data.toList.drop f).take (k - f)) (s[k] :: s.data.toList.drop (k + 1)) = rcutL c qs s.data.toList) := by
        unfold Hid; rw [← HX2.out]; exact HX.out
      generalize hsk : s[k] = x at *
      have HSK := Lib.hid hsk
      clear hx HX HX2
      by_cases h39 : x = 39
      · have hb39 : ((s[k].toNat : Int) == 39) = true := by rw [HSK.out, h39]; rfl
        have hbc : ((s[k].toNat : Int) == (c.toNat : Int)) = false := by
          rw [HSK.out, beq_eq_false_iff_ne]
          intro e
          exact hc39 (by rw [← h39]; exact UInt8.toNat_inj.1 (by omega))
        have HN : Hid (done ++ rcutG c qs (q != qs) ((s.data.toList.drop f).take (k + 1 - f)) (s.data.toList.drop (k + 1)) = rcutL c qs s.data.toList) := by
          unfold Hid; rw [HX1.out, ← HST.out, rcutG_cons, if_pos h39]
        clear h39 hsk HST HX1 hc39
        cases qs with
        | true =>
          have HN : Hid (done ++ rcutG c true (!q) ((s.data.toList.drop f).take (k + 1 - f)) (s.data.toList.drop (k + 1)) = rcutL c true s.data.toList) := by
            have h := HN.out; rw [show (q != true) = !q from by cases q <;> rfl] at h; exact h
          -- no cut here: (!q): in quotes behind it
          go_wp2_with fail
          go_roundw
          case rel => exact ⟨k + 1, f, done, (!q), by omega, by omega, by omega, by go_num, by go_num, rfl, hbr, HO, HN⟩
          case measure => simp [intOf]; omega
        | false =>
          have HN : Hid (done ++ rcutG c false q ((s.data.toList.drop f).take (k + 1 - f)) (s.data.toList.drop (k + 1)) = rcutL c false s.data.toList) := by
            have h := HN.out; rw [show (q != false) = q from by cases q <;> rfl] at h; exact h
          -- no cut here: q: in quotes behind it
          go_wp2_with fail
          go_roundw
          case rel => exact ⟨k + 1, f, done, q, by omega, by omega, by omega, by go_num, by go_num, rfl, hbr, HO, HN⟩
          case measure => simp [intOf]; omega
      · have hb39 : ((s[k].toNat : Int) == 39) = false := by
          rw [HSK.out, beq_eq_false_iff_ne]
          intro e
          exact h39 (UInt8.toNat_inj.1 (by show x.toNat = 39; omega))
        by_cases hc : x = c
        · have hbc : ((s[k].toNat : Int) == (c.toNat : Int)) = true := by rw [HSK.out, hc]; simp
          cases q with
          | true =>
            have HN : Hid (done ++ rcutG c qs true ((s.data.toList.drop f).take (k + 1 - f)) (s.data.toList.drop (k + 1)) = rcutL c qs s.data.toList) := by
              unfold Hid; rw [HX1.out, ← HST.out, rcutG_cons, if_neg h39, if_neg (fun e => by cases e.2)]
            clear h39 hsk HST HX1 hc hc39
            -- no cut here: true: in quotes behind it
            go_wp2_with fail
            go_roundw
            case rel => exact ⟨k + 1, f, done, true, by omega, by omega, by omega, by go_num, by go_num, rfl, hbr, HO, HN⟩
            case measure => simp [intOf]; omega
          | false =>
            have HN : Hid ((done ++ [(s.data.toList.drop f).take (k - f)]) ++ rcutG c qs false ((s.data.toList.drop (k + 1)).take (k + 1 - (k + 1))) (s.data.toList.drop (k + 1)) = rcutL c qs s.data.toList) := by
              unfold Hid; rw [← HST.out, rcutG_cons, if_neg h39, if_pos ⟨hc, rfl⟩]; simp
            clear h39 hsk HST HX1 hc hc39
            -- an append of s[f:k]: 35, 40: the temporaries; wo: the world; k: the piece's end, spelled
            have HOA : Hid (Own (wo.alloc (.cells #[.string (s.extract f k)] 9)) w.heap.size 9 1 (.slice A4 done.length c4) done.length (wv done)) := HO.out.alloc _
            have HN : Hid (∀ j u, ([.string (s.extract f k)] : List Value)[j]? = some u → (wo.alloc (.cells #[.string (s.extract f k)] 9)).cell? ⟨wo.heap.size, j, none⟩ = some u) := fun j u hj => by
              rw [World.cell?_alloc_at _ _ _ _ rfl]; simpa using hj
            have hA4 := hbr.alloc hbr.size (.cells #[.string (s.extract f k)] 9)
            clear hbr HO
            go_wp2_with (at_builtin; refine wpList_append_q _ rfl (.tmp 35) (.tmp 40) _ rfl w.heap.size 9 i0 (.string .empty) 1 16 Tryz.underlying32 ei ez ez1 ez2 rfl (by decide) (.slice A4 done.length c4) done.length (wv done) rfl HOA.out (some ⟨wo.heap.size, 0, none⟩) 1 1 [.string (s.extract f k)] rfl rfl (fun _ => ⟨_, rfl, fun j u hj => by rw [addr_add, Nat.zero_add]; exact HN.out j u hj⟩) (fun u hu => by simp at hu; subst hu; rfl) (by unfold maxLen; omega) (by omega) (by have := hA4.size; exact this) ?_; intro v9 w9 hown9 hg9 hat9)
            have hB9 : Below w.heap.size w w9 := hA4.grown hg9 hA4.size (fun kk e => (HOA.out.lt kk e).1)
            have HO9 : Hid (Own w9 w.heap.size 9 1 v9 (done.length + 1) (wv (done ++ [(s.data.toList.drop f).take (k - f)]))) := by
              unfold Hid wv
              rw [List.map_append]
              have h := hown9
              rw [ext_list] at h
              exact h
            clear hg9 hat9 hown9 HOA HN hA4
            go_wp2_with fail
            go_roundw
            case rel => exact ⟨k + 1, k + 1, done ++ [(s.data.toList.drop f).take (k - f)], false, by omega, by omega, by simp; omega, by go_num, by go_num, rfl, hB9, by rw [List.length_append]; exact HO9, HN⟩
            case measure => simp [intOf]; omega
        · have hbc : ((s[k].toNat : Int) == (c.toNat : Int)) = false := by
            rw [HSK.out, beq_eq_false_iff_ne]
            intro e
            exact hc (UInt8.toNat_inj.1 (by omega))
          have HN : Hid (done ++ rcutG c qs q ((s.data.toList.drop f).take (k + 1 - f)) (s.data.toList.drop (k + 1)) = rcutL c qs s.data.toList) := by
            unfold Hid; rw [HX1.out, ← HST.out, rcutG_cons, if_neg h39, if_neg (fun e => hc e.1)]
          clear h39 hsk HST HX1 hc hc39
          -- no cut here: q: in quotes behind it
          go_wp2_with fail
          go_roundw
          case rel => exact ⟨k + 1, f, done, q, by omega, by omega, by omega, by go_num, by go_num, rfl, hbr, HO, HN⟩
          case measure => simp [intOf]; omega
    · obtain rfl : k = s.size := by omega
      have HN : Hid (done ++ [(s.data.toList.drop f).take (s.size - f)] = rcutL c qs s.data.toList) := by
        have h := HX.out
        have e : s.data.toList.drop s.size = [] := List.drop_eq_nil_of_le (by rw [HLE.out]; exact Nat.le_refl _)
        rw [e] at h
        exact h
      clear hlt hk HX
      -- an append of s[f:s.size]: 44, 48: the temporaries; wo: the world; s.size: the piece's end, spelled
      have HOA : Hid (Own (wo.alloc (.cells #[.string (s.extract f s.size)] 9)) w.heap.size 9 1 (.slice A4 done.length c4) done.length (wv done)) := HO.out.alloc _
      have HN : Hid (∀ j u, ([.string (s.extract f s.size)] : List Value)[j]? = some u → (wo.alloc (.cells #[.string (s.extract f s.size)] 9)).cell? ⟨wo.heap.size, j, none⟩ = some u) := fun j u hj => by
        rw [World.cell?_alloc_at _ _ _ _ rfl]; simpa using hj
      have hA4 := hbr.alloc hbr.size (.cells #[.string (s.extract f s.size)] 9)
      clear hbr HO
      go_wp2_with (at_builtin; refine wpList_append_q _ rfl (.tmp 44) (.tmp 48) _ rfl w.heap.size 9 i0 (.string .empty) 1 16 Tryz.underlying32 ei ez ez1 ez2 rfl (by decide) (.slice A4 done.length c4) done.length (wv done) rfl HOA.out (some ⟨wo.heap.size, 0, none⟩) 1 1 [.string (s.extract f s.size)] rfl rfl (fun _ => ⟨_, rfl, fun j u hj => by rw [addr_add, Nat.zero_add]; exact HN.out j u hj⟩) (fun u hu => by simp at hu; subst hu; rfl) (by unfold maxLen; omega) (by omega) (by have := hA4.size; exact this) ?_; intro v9 w9 hown9 hg9 hat9)
      have hB9 : Below w.heap.size w w9 := hA4.grown hg9 hA4.size (fun kk e => (HOA.out.lt kk e).1)
      have HO9 : Hid (Own w9 w.heap.size 9 1 v9 (done.length + 1) (wv (done ++ [(s.data.toList.drop f).take (s.size - f)]))) := by
        unfold Hid wv
        rw [List.map_append]
        have h := hown9
        rw [ext_list] at h
        exact h
      clear hg9 hat9 hown9 HOA HN hA4
      go_wp2_with fail
      have hn9 : done.length + 1 = (rcutL c qs s.data.toList).length := by rw [← HN.out]; simp
      obtain ⟨A9, c9, rfl, _, _⟩ := HO9.out.form
      have HF : Hid (Own w9 w.heap.size 9 1 (.slice A9 (rcutL c qs s.data.toList).length c9) (rcutL c qs s.data.toList).length (wv (rcutL c qs s.data.toList))) := by
        have h := HO9.out
        rw [HN.out, hn9] at h
        exact h
      have HN9 := Lib.hid hn9
      clear hn9 HN HO9
      go_ret
      exact ⟨A9, c9, by first | rfl | (rw [HN9.out]; rfl), HF.out, hB9⟩

theorem dig_len {u : Nat} (h : u ≤ 1000000) : (Lib.decDigits u).length ≤ 9 := by
  have := (itoa_small (n := (u : Int)) (by omega) (by omega)).1
  rw [itoa_nat, digits_trim] at this; exact this
theorem dec_big {u : Nat} (h : ¬ u < 10) : Lib.decDigits u = Lib.decDigits (u / 10) ++ Lib.decDigits (u % 10) := by
  rw [Lib.decDigits_one (show u % 10 < 10 by omega)]
  conv => lhs; rw [Lib.decDigits]
  rw [dif_neg h]
theorem dec_text {u : Nat} (h : u < 10) : (⟨#[48, 49, 50, 51, 52, 53, 54, 55, 56, 57]⟩ : ByteArray).extract u (u + 1) = bs (Lib.decDigits u) := by
  rw [Lib.decDigits_one h]
  rcases (by omega : u = 0 ∨ u = 1 ∨ u = 2 ∨ u = 3 ∨ u = 4 ∨ u = 5 ∨ u = 6 ∨ u = 7 ∨ u = 8 ∨ u = 9) with rfl | rfl | rfl | rfl | rfl | rfl | rfl | rfl | rfl | rfl <;> decide +kernel
set_option maxRecDepth 100000 in
set_option maxHeartbeats 2000000 in
theorem dig_pos : ∀ (u : Nat), u ≤ 1000000 → ∀ w : World, Calls Tryz.prog 66 #[.int .i64 (u : Int)] w fun e w' => e = .returned (.string (bs (Lib.decDigits u))) ∧ Below w.heap.size w w' := by
  intro u
  induction u using Nat.strongRecOn with
  | ind u ih =>
  intro hu w
  by_cases h10 : u < 10
  · have HE := Lib.hid (dec_text h10)
    have h10' : (u : Int) < 10 := by omega
    clear ih
    go_enter Tryz.func66, Tryz.ntmps66
    go_wp2_with fail
    go_ret
    exact ⟨by rw [← HE.out]; rfl, Below.refl _ _⟩
  · have hx := ih (u / 10) (by omega) (by omega) w
    have HY := Lib.hid (ih (u % 10) (by omega) (by omega))
    have HE := Lib.hid (dec_big h10)
    have h10' : ¬ (u : Int) < 10 := by omega
    have e1 : (u : Int) / 10 = ((u / 10 : Nat) : Int) := by omega
    have e2 : (u : Int) % 10 = ((u % 10 : Nat) : Int) := by omega
    have E1 := Lib.hid e1
    have E2 := Lib.hid e2
    have l1 := dig_len (u := u / 10) (by omega)
    have l2 := dig_len (u := u % 10) (by omega)
    have s1 : (bs (Lib.decDigits (u / 10))).size ≤ 9 := by rw [bs_size]; exact l1
    have s2 : (bs (Lib.decDigits (u % 10))).size ≤ 9 := by rw [bs_size]; exact l2
    clear ih l1 l2 e1 e2
    go_enter Tryz.func66, Tryz.ntmps66
    go_wp2_with fail
    rw [E1.out]
    refine hx.mono ?_
    clear hx
    rintro e w1 ⟨rfl, hb1⟩
    go_wp2_with fail
    rw [E2.out]
    refine (HY.out w1).mono ?_
    rintro e w2 ⟨rfl, hb2⟩
    generalize hA : bs (Lib.decDigits (u / 10)) = A at *
    generalize hB : bs (Lib.decDigits (u % 10)) = B at *
    have HA := Lib.hid hA
    have HB := Lib.hid hB
    have hsum : ¬ 9223372036854775807 < A.size + B.size := by omega
    clear hA hB
    go_wp2_with fail
    go_ret
    exact ⟨by rw [HE.out, ← bs_append, HA.out, HB.out]; rfl, hb1.trans (hb2.mono hb1.size)⟩
set_option maxHeartbeats 2000000 in
theorem dig_neg : ∀ (u : Nat), 0 < u → u ≤ 1000000 → ∀ w : World, Calls Tryz.prog 66 #[.int .i64 (-(u : Int))] w fun e w' => e = .returned (.string (bs (45 :: Lib.decDigits u))) ∧ Below w.heap.size w w' := by
  intro u
  induction u using Nat.strongRecOn with
  | ind u ih =>
  intro h0 hu w
  have hlt : -(u : Int) < 0 := by omega
  by_cases h9 : u ≤ 9
  · have hx := dig_pos u hu w
    have h9' : ¬ -(u : Int) < -9 := by omega
    have s1 : (bs (Lib.decDigits u)).size ≤ 9 := by rw [bs_size]; exact dig_len hu
    have HE : Hid (bs (45 :: Lib.decDigits u) = bs [45] ++ bs (Lib.decDigits u)) := by unfold Hid; rw [bs_append]; rfl
    clear ih
    generalize hA : bs (Lib.decDigits u) = A at *
    clear hA
    have hsum : ¬ 9223372036854775807 < 1 + A.size := by omega
    go_enter Tryz.func66, Tryz.ntmps66
    go_wp2_with fail
    refine hx.mono ?_
    clear hx
    rintro e w1 ⟨rfl, hb1⟩
    go_wp2_with fail
    go_ret
    exact ⟨by rw [HE.out]; rfl, hb1⟩
  · have hx := ih (u / 10) (by omega) (by omega) (by omega) w
    have HY := Lib.hid (dig_pos (u % 10) (by omega))
    have HE := Lib.hid (dec_big (u := u) (by omega))
    have h9' : -(u : Int) < -9 := by omega
    have l1 := dig_len (u := u / 10) (by omega)
    have l2 := dig_len (u := u % 10) (by omega)
    have s1 : (bs (45 :: Lib.decDigits (u / 10))).size ≤ 10 := by rw [bs_size]; simp; omega
    have s2 : (bs (Lib.decDigits (u % 10))).size ≤ 9 := by rw [bs_size]; exact l2
    have e1 : -((u : Int) / 10) = -((u / 10 : Nat) : Int) := by omega
    have e2 : (u : Int) % 10 = ((u % 10 : Nat) : Int) := by omega
    have HE2 : Hid (bs (45 :: Lib.decDigits u) = bs (45 :: Lib.decDigits (u / 10)) ++ bs (Lib.decDigits (u % 10))) := by unfold Hid; rw [HE.out, bs_append]; rfl
    have E1 := Lib.hid e1
    have E2 := Lib.hid e2
    clear ih l1 l2 e1 e2
    go_enter Tryz.func66, Tryz.ntmps66
    go_wp2_with fail
    rw [E1.out]
    refine hx.mono ?_
    clear hx
    rintro e w1 ⟨rfl, hb1⟩
    go_wp2_with fail
    rw [E2.out]
    refine (HY.out w1).mono ?_
    rintro e w2 ⟨rfl, hb2⟩
    generalize hA : bs (45 :: Lib.decDigits (u / 10)) = A at *
    generalize hB : bs (Lib.decDigits (u % 10)) = B at *
    have hsum : ¬ 9223372036854775807 < A.size + B.size := by omega
    clear hA hB
    go_wp2_with fail
    go_ret
    exact ⟨by rw [HE2.out]; rfl, hb1.trans (hb2.mono hb1.size)⟩
theorem dig_any (n : Int) (h : -1000000 ≤ n ∧ n ≤ 1000000) (w : World) : Calls Tryz.prog 66 #[.int .i64 n] w fun e w' => e = .returned (.string (bs (Lib.itoa n))) ∧ Below w.heap.size w w' := by
  rcases itoa_cases n with ⟨u, rfl, e⟩ | ⟨u, hu, rfl, e⟩
  · rw [e]; exact dig_pos u (by omega) w
  · rw [e]; exact dig_neg u (by omega) (by omega) w
end Go.Proofs.YtdmpkgiijddcdaaGreatDoor
