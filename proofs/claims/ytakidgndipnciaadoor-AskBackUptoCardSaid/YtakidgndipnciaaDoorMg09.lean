/- Parts: RxB, RxC, VpP. -/
import Derived.Test.YtakidgndipnciaaDoorMg08
import Derived.Test.YtakidgndipnciaaDoorMg04
import Derived.Lib.AtoiTie
/- Contracts of the reader of a path: need, words. Condition: the text is not too long. -/
namespace Go.Proofs.YtakidgndipnciaaDoor
open Go Go.RowKit



/-- A byte that must be one of these. -/
def pAny (t l : List UInt8) : Except Nat (UInt8 × List UInt8) := match l with | [] => .error 0 | x :: r => if x ∈ t then .ok (x, r) else .error (r.length + 1)
theorem any_hit {t l r : List UInt8} {x : UInt8} (h : pAny t l = .ok (x, r)) : l = x :: r ∧ x ∈ t := by
  unfold pAny at h
  split at h
  · cases h
  · split at h
    · rename_i hm
      injection h with h
      injection h with h1 h2
      subst h1; subst h2
      exact ⟨rfl, hm⟩
    · cases h
theorem any_next {t l r : List UInt8} {x : UInt8} (h : pAny t l = .ok (x, r)) : pNext t l = (x, r) := by
  obtain ⟨rfl, hm⟩ := any_hit h
  exact pNext_hit hm
theorem any_miss {t l : List UInt8} {n : Nat} (h : pAny t l = .error n) : pNext t l = (0, l) ∧ n = l.length := by
  unfold pAny at h
  split at h
  · injection h with h; exact ⟨rfl, h.symm⟩
  · split at h
    · cases h
    · rename_i hm
      injection h with h
      exact ⟨pNext_miss hm, h.symm⟩
theorem u8_zero {x : UInt8} (h : x ≠ 0) : ((x.toNat : Int) == 0) = false := by
  rw [beq_eq_false_iff_ne]
  intro e
  apply h
  apply UInt8.toNat_inj.1
  show x.toNat = 0
  omega
set_option maxRecDepth 100000 in
set_option maxHeartbeats 4000000 in
theorem need_any (t s : ByteArray) (hs : Sm s) (h0 : ∀ x ∈ t.data.toList, x ≠ 0) (r : Nat) (l : List UInt8) (w : World) (h : RdAt w r s l) :
    Calls Tryd.prog 23 #[.pointer (some ⟨r, 0, none⟩), .string t] w fun e w' => Rd r s w (pAny t.data.toList l) (fun c v _ => v = .int .u8 (c.toNat : Int)) e w' := by
  have hx := next_any t s hs r l w h
  cases hp : pAny t.data.toList l with
  | ok c =>
    obtain ⟨c, l'⟩ := c
    rw [any_next hp] at hx
    have hc := u8_zero (h0 c (any_hit hp).2)
    clear hp
    go_enter Tryd.func23, Tryd.ntmps23
    go_wp2_with fail
    refine hx.mono ?_
    clear hx
    rintro e w1 ⟨rfl, hk, ha⟩
    go_wp2_with fail
    go_ret
    exact ⟨hk, _, rfl, rfl, ha⟩
  | error n =>
    obtain ⟨e1, e2⟩ := any_miss hp
    rw [e1] at hx
    have HN := Lib.hid e2
    clear hp e1 e2
    go_enter Tryd.func23, Tryd.ntmps23
    go_wp2_with fail
    refine hx.mono ?_
    clear hx
    rintro e w1 ⟨rfl, hk, ha⟩
    obtain ⟨p, hp1, hp2, hp3⟩ := ha
    have x1 := block_cell hp3 1
    have HK := Lib.hid hk
    have HP : Hid (n ≤ s.size ∧ ((s.size - n : Nat) : Int) = (p : Int)) := by
      have := HN.out
      exact ⟨by omega, by omega⟩
    clear hk hp1 hp2
    go_wp2_with fail
    exact ⟨rfl, HK.out, HP.out.1, by rw [HP.out.2]⟩
theorem need_one {c : UInt8} {l : List UInt8} : pNeed c l = match pAny [c] l with | .ok (_, r) => .ok r | .error n => .error n := by
  unfold pNeed pAny
  cases l with
  | nil => rfl
  | cons x r =>
    by_cases h : x = c
    · subst h; simp
    · simp [h]
theorem ext_rd (s : ByteArray) (f k : Nat) : s.extract f k = bs ((s.data.toList.drop f).take (k - f)) := by
  rw [← bs_of (s.extract f k), Lib.extract_data]
theorem one_byte (c : UInt8) : (⟨#[c]⟩ : ByteArray).extract 0 1 = ⟨#[c]⟩ := by
  show (bs [c]).extract 0 1 = bs [c]
  rw [ext_rd, bs_list]; rfl
set_option maxRecDepth 100000 in
set_option maxHeartbeats 4000000 in
theorem words_any (c : UInt8) (hc : c ≠ 0) (s : ByteArray) (hs : Sm s) (r : Nat) (l : List UInt8) (w : World) (h : RdAt w r s l) :
    Calls Tryd.prog 22 #[.pointer (some ⟨r, 0, none⟩), .string ⟨#[c]⟩] w fun e w' => Rd r s w (match pNeed c l with | .ok r => .ok ((), r) | .error n => .error n) (fun _ v _ => v = .tuple #[]) e w' := by
  have hx := need_any ⟨#[c]⟩ s hs (fun x hx => by have : x = c := by simpa using hx
                                                  subst this; exact hc) r l w h
  have hob := one_byte c
  rw [need_one]
  have hx : Calls Tryd.prog 23 #[.pointer (some ⟨r, 0, none⟩), .string ⟨#[c]⟩] w fun e w' => Rd r s w (pAny [c] l) (fun c v _ => v = .int .u8 (c.toNat : Int)) e w' := hx
  cases hp : pAny [c] l with
  | ok c1 =>
    obtain ⟨c1, l'⟩ := c1
    rw [hp] at hx
    clear hp h
    go_enter Tryd.func22, Tryd.ntmps22
    go_wp2_with fail
    -- a loop: the mask [.k, .k, .k, .k, .y 4, .k, .k, .a, .y 8, .y 9, .y 10, .y 11, .y 12, .y 13, .y 14, .y 15, .y 16, .y 17], the slots 7 0 0 0, the relation fun i _ _ _ wr => ∃ k : Nat, k ≤ 1 ∧ i = .int .i64 k ∧ (k = 0 → w = wr) ∧ Hid (k = 1 → RdK r w wr ∧ RdAt wr r s l'), the measure fun i _ _ _ _ => 1 - (intOf i).toNat
    apply wp_loopm [.k, .k, .k, .k, .y 4, .k, .k, .a, .y 8, .y 9, .y 10, .y 11, .y 12, .y 13, .y 14, .y 15, .y 16, .y 17] 7 0 0 0 (by decide +kernel) rfl (fun i _ _ _ wr => ∃ k : Nat, k ≤ 1 ∧ i = .int .i64 k ∧ (k = 0 → w = wr) ∧ Hid (k = 1 → RdK r w wr ∧ RdAt wr r s l')) (fun i _ _ _ _ => 1 - (intOf i).toNat) _ _ _ _ rfl rfl rfl rfl
    case start => exact ⟨0, by omega, rfl, fun _ => rfl, fun h => by cases h⟩
    case round =>
      -- a round: the names u7 _ _ _ (four), the world's name
      intro ff u7 _ _ _ wr hrel
      dsimp only [spread]
      obtain ⟨k, hk, rfl, h0, H1⟩ := hrel
      obtain ⟨wo, hwo⟩ : ∃ wo : World, wo = wr := ⟨_, rfl⟩
      subst hwo
      rcases (by omega : k = 0 ∨ k = 1) with rfl | rfl
      · obtain rfl := h0 rfl
        go_wp2_with fail
        refine hx.mono ?_
        clear hx
        rintro e w1 ⟨hk1, v, rfl, _, ha1⟩
        have HK := Lib.hid hk1
        have HA := Lib.hid ha1
        clear hk1 ha1
        go_wp2_with fail
        -- a round's end: the relation, the measure
        apply Rounded.at _ _ _ _ _ rfl rfl rfl rfl rfl rfl
        case rel => exact ⟨1, Nat.le_refl _, by go_num, (fun h => by cases h), fun _ => ⟨HK.out, HA.out⟩⟩
        case measure => simp [intOf]
      · have HR := Lib.hid (H1.out rfl)
        clear H1 hx
        go_wp2_with fail
        go_end0
        exact ⟨HR.out.1, _, rfl, rfl, HR.out.2⟩
  | error n =>
    rw [hp] at hx
    clear hp h
    go_enter Tryd.func22, Tryd.ntmps22
    go_wp2_with fail
    -- a loop: the mask [.k, .k, .k, .k, .y 4, .k, .k, .a, .y 8, .y 9, .y 10, .y 11, .y 12, .y 13, .y 14, .y 15, .y 16, .y 17], the slots 7 0 0 0, the relation fun i _ _ _ wr => i = .int .i64 0 ∧ w = wr, the measure fun i _ _ _ _ => 1 - (intOf i).toNat
    apply wp_loopm [.k, .k, .k, .k, .y 4, .k, .k, .a, .y 8, .y 9, .y 10, .y 11, .y 12, .y 13, .y 14, .y 15, .y 16, .y 17] 7 0 0 0 (by decide +kernel) rfl (fun i _ _ _ wr => i = .int .i64 0 ∧ w = wr) (fun i _ _ _ _ => 1 - (intOf i).toNat) _ _ _ _ rfl rfl rfl rfl
    case start => exact ⟨rfl, rfl⟩
    case round =>
      -- a round: the names u7 _ _ _ (four), the world's name
      intro ff u7 _ _ _ wr hrel
      dsimp only [spread]
      obtain ⟨rfl, rfl⟩ := hrel
      go_wp2_with fail
      refine hx.mono ?_
      clear hx
      rintro e w1 ⟨hk1, hn, rfl⟩
      have HK := Lib.hid hk1
      have HN := Lib.hid hn
      clear hk1 hn
      go_wp2_with fail
      exact ⟨rfl, HK.out, HN.out, rfl⟩



def lettersL : ByteArray := ⟨#[97, 98, 99, 100, 101, 102, 103, 104, 105, 106, 107, 108, 109, 110, 111, 112, 113, 114, 115, 116, 117, 118, 119, 120, 121, 122]⟩
set_option maxRecDepth 100000 in
theorem letters_in (x : UInt8) : x ∈ lettersL.data.toList ↔ letB x = true := by
  have h : ∀ i : Fin 256, (UInt8.ofNat i.val ∈ lettersL.data.toList) = (letB (UInt8.ofNat i.val) = true) := by decide +kernel
  have := h ⟨x.toNat, x.toNat_lt⟩
  rw [show UInt8.ofNat x.toNat = x by simp] at this
  rw [this]
theorem letters_pos : ∀ x ∈ lettersL.data.toList, x ≠ 0 := by decide +kernel
theorem pName_no {l : List UInt8} (h : l.takeWhile letB = []) : pName l = .error l.length := by unfold pName; rw [if_pos h]
theorem pName_yes {l : List UInt8} (h : l.takeWhile letB ≠ []) : pName l = .ok (bs (l.takeWhile letB), l.dropWhile letB) := by unfold pName; rw [if_neg h]
theorem span_at {a b : List UInt8} (h : ∀ x ∈ a, letB x = true) (hb : ∀ x r, b = x :: r → letB x = false) : (a ++ b).takeWhile letB = a ∧ (a ++ b).dropWhile letB = b := by
  have h1 : b.takeWhile letB = [] := by
    cases b with
    | nil => rfl
    | cons x r => rw [List.takeWhile_cons, if_neg (by rw [hb x r rfl]; decide)]
  have h2 : b.dropWhile letB = b := by
    cases b with
    | nil => rfl
    | cons x r => rw [List.dropWhile_cons, if_neg (by rw [hb x r rfl]; decide)]
  refine ⟨?_, ?_⟩
  · rw [List.takeWhile_append_of_pos h, h1, List.append_nil]
  · rw [List.dropWhile_append_of_pos h, h2]
/-- How much is left, off the reader's own cell. -/
def rdM (w : World) (r n : Nat) : Nat := match w.cell? ⟨r, 1, none⟩ with | some (.int _ p) => n - p.toNat | _ => 0
theorem rdM_at {w : World} {r : Nat} {s : ByteArray} {l : List UInt8} (h : RdAt w r s l) : rdM w r s.size = l.length := by
  obtain ⟨p, h1, _, h3⟩ := h
  have x1 := block_cell h3 1
  unfold rdM
  rw [x1]
  show s.size - (p : Int).toNat = l.length
  rw [Int.toNat_natCast]; omega
set_option maxRecDepth 100000 in
set_option maxHeartbeats 4000000 in
theorem name_rd (s : ByteArray) (hs : Sm s) (r : Nat) (l : List UInt8) (w : World) (h : RdAt w r s l) :
    Calls Tryd.prog 24 #[.pointer (some ⟨r, 0, none⟩)] w fun e w' => Rd r s w (pName l) (fun n v _ => v = .string n) e w' := by
  have hx := need_any lettersL s hs letters_pos r l w h
  obtain ⟨p, hp1, hp2, hp3⟩ := h
  have HS : Hid (s.size ≤ 1048576) := hs
  have HP := Lib.hid (And.intro hp1 hp2)
  have x1 := block_cell hp3 1
  clear hp1 hp2
  cases hp : pAny lettersL.data.toList l with
  | error n =>
    have hn : pName l = .error n := by
      obtain ⟨e1, e2⟩ := any_miss hp
      rw [pName_no ?_, e2]
      cases l with
      | nil => rfl
      | cons x l =>
        rw [List.takeWhile_cons, if_neg]
        intro hl
        rw [pNext_hit ((letters_in x).2 hl)] at e1
        injection e1 with e1 _
        exact letters_pos x ((letters_in x).2 hl) e1
    rw [hp] at hx
    rw [hn]
    clear hp hn
    go_enter Tryd.func24, Tryd.ntmps24
    go_wp2_with fail
    refine hx.mono ?_
    clear hx x1
    rintro e w1 ⟨hk1, hn, rfl⟩
    have HK := Lib.hid hk1
    have HN := Lib.hid hn
    clear hk1 hn
    go_wp2_with fail
    exact ⟨rfl, HK.out, HN.out, rfl⟩
  | ok c =>
    obtain ⟨c, l1⟩ := c
    rw [hp] at hx
    obtain ⟨hl, hcm⟩ := any_hit hp
    have HL := Lib.hid hl
    have HC : Hid (letB c = true) := (letters_in c).1 hcm
    clear hp hl hcm hp3
    go_enter Tryd.func24, Tryd.ntmps24
    go_wp2_with fail
    refine hx.mono ?_
    clear hx x1
    rintro e w1 ⟨hk1, v, rfl, _, ha1⟩
    have HK1 := Lib.hid hk1
    have HA1 := Lib.hid ha1
    clear hk1 ha1
    go_wp2_with fail
    -- a loop: the mask [.k, .k, .k, .k, .k, .k, .k, .k, .k, .k, .y 10, .y 11, .y 12, .k, .k, .k, .k, .k, .k, .k, .k, .k, .k], the slots 0 0 0 0, the relation fun _ _ _ _ wr => ∃ a b, Hid (l = a ++ b ∧ a ≠ [] ∧ ∀ x ∈ a, letB x = true) ∧ Hid (RdK r w wr) ∧ Hid (RdAt wr r s b), the measure fun _ _ _ _ wr => rdM wr r s.size
    apply wp_loopm [.k, .k, .k, .k, .k, .k, .k, .k, .k, .k, .y 10, .y 11, .y 12, .k, .k, .k, .k, .k, .k, .k, .k, .k, .k] 0 0 0 0 (by decide +kernel) rfl (fun _ _ _ _ wr => ∃ a b, Hid (l = a ++ b ∧ a ≠ [] ∧ ∀ x ∈ a, letB x = true) ∧ Hid (RdK r w wr) ∧ Hid (RdAt wr r s b)) (fun _ _ _ _ wr => rdM wr r s.size) _ _ _ _ rfl rfl rfl rfl
    case start => exact ⟨[c], l1, ⟨HL.out, by simp, fun x hx => by have : x = c := by simpa using hx
                                                                   rw [this]; exact HC.out⟩, HK1, HA1⟩
    case round =>
      -- a round: the names _ _ _ _ (four), the world's name
      intro ff _ _ _ _ wr hrel
      dsimp only [spread]
      clear HK1 HA1
      obtain ⟨a, b, HAB, HK, HA⟩ := hrel
      obtain ⟨wo, hwo⟩ : ∃ wo : World, wo = wr := ⟨_, rfl⟩
      subst hwo
      have hx := next_any lettersL s hs r b wo HA.out
      have HM := Lib.hid (rdM_at HA.out)
      by_cases hb : ∃ x b', b = x :: b' ∧ letB x = true
      · obtain ⟨x, b', rfl, hxl⟩ := hb
        rw [pNext_hit ((letters_in x).2 hxl)] at hx
        have hpos : (0 : Int) < (x.toNat : Int) := by
          have := letters_pos x ((letters_in x).2 hxl)
          rcases Nat.eq_zero_or_pos x.toNat with e | e
          · exact absurd (UInt8.toNat_inj.1 e) this
          · omega
        have HX := Lib.hid hxl
        clear hxl
        go_wp2_with fail
        refine hx.mono ?_
        clear hx
        rintro e w2 ⟨rfl, hk2, ha2⟩
        have HK2 := Lib.hid (HK.out.trans hk2)
        have HA2 := Lib.hid ha2
        have HM2 := Lib.hid (rdM_at ha2)
        clear hk2 ha2
        go_wp2_with fail
        -- a round's end: the relation, the measure
        apply Rounded.at _ _ _ _ _ rfl rfl rfl rfl rfl rfl
        case rel => exact ⟨a ++ [x], b', ⟨by rw [HAB.out.1]; simp, by simp, fun y hy => by
          rcases List.mem_append.1 hy with h | h
          · exact HAB.out.2.2 y h
          · have : y = x := by simpa using h
            rw [this]; exact HX.out⟩, HK2, HA2⟩
        case measure => rw [HM2.out, HM.out]; exact Nat.lt_succ_self _
      · have hmiss : pNext lettersL.data.toList b = (0, b) := by
          cases b with
          | nil => rfl
          | cons x b' => exact pNext_miss (fun h => hb ⟨x, b', rfl, (letters_in x).1 h⟩)
        rw [hmiss] at hx
        have HNB : Hid (∀ x r, b = x :: r → letB x = false) := fun x r' e => by
          cases hl : letB x with
          | false => rfl
          | true => exact absurd ⟨x, r', e, hl⟩ hb
        clear hmiss hb
        go_wp2_with fail
        refine hx.mono ?_
        clear hx
        rintro e w2 ⟨rfl, hk2, ha2⟩
        obtain ⟨p2, hq1, hq2, hq3⟩ := ha2
        have HK2 := Lib.hid (HK.out.trans hk2)
        have x0 := block_cell hq3 0
        have x1 := block_cell hq3 1
        have HA2 : Hid (∀ n, RdAt (w2.drewN n) r s b) := fun n => ⟨p2, hq1, hq2, hq3⟩
        obtain ⟨t1, t2⟩ := span_at HAB.out.2.2 HNB.out
        have HRS : Hid (pName l = .ok (bs a, b)) := by
          unfold Hid; rw [HAB.out.1, pName_yes (by rw [t1]; exact HAB.out.2.1), t1, t2]
        have hpp : p ≤ p2 := by have h1 := HP.out.1; rw [HAB.out.1, List.length_append] at h1; omega
        have hps : p2 ≤ s.size := by omega
        have hpp' : (p : Int) ≤ (p2 : Int) := by omega
        have hps' : (p2 : Int) ≤ (s.size : Int) := by omega
        have hp0 : (0 : Int) ≤ (p : Int) := Int.natCast_nonneg p
        have hp0' : (0 : Int) ≤ (p2 : Int) := Int.natCast_nonneg p2
        have HEX : Hid (s.extract p p2 = bs a) := by
          unfold Hid
          rw [ext_rd, HP.out.2, HAB.out.1]
          have h1 := HP.out.1
          rw [HAB.out.1, List.length_append] at h1
          rw [show p2 - p = a.length by omega, List.take_left]
        clear hk2 hq1 hq2 hq3 HM t1 t2
        go_wp2_with fail
        go_quiet (fail)
        go_wp2_with fail
        go_ret
        rw [HRS.out]
        exact ⟨HK2.out.trans ⟨Go.below_drewN (Below.refl _ _) _, fun _ _ _ => rfl⟩, _, rfl, by rw [← HEX.out]; rfl, HA2.out _⟩
open Go

/-- A numeral that is not too long is read as it was written. -/
theorem atoi_back (n : Int) (h : (Lib.trimPrefix (Lib.itoa n) [45]).length ≤ 9) : Lib.atoiAll (Lib.itoa n) = .ok n := by
  refine atoi_itoa ?_
  rcases itoa_cases n with ⟨u, hu, e⟩ | ⟨u, h0, hu, e⟩
  · rw [e, digits_trim] at h
    rw [e]; omega
  · rw [e, minus_trim] at h
    rw [e, List.length_cons]; omega
theorem atoi_range {l : List UInt8} {v : Int} (h : Lib.atoiAll l = .ok v) : I64 v := by
  unfold Lib.atoiAll at h
  unfold I64
  split at h
  · cases h
  · rename_i c r
    simp only at h
    split at h
    · cases h
    · cases h
    · rename_i u hu
      split at h
      · cases h
      · rename_i h1
        split at h
        · cases h
        · rename_i h2
          injection h with h
          by_cases hn : c.toNat = 45
          · rw [if_pos hn] at h
            have : ¬ 9223372036854775808 < u := fun e => h2 ⟨hn, e⟩
            omega
          · rw [if_neg hn] at h
            have : ¬ 9223372036854775808 ≤ u := fun e => h1 ⟨hn, e⟩
            omega
/-- Whether Atoi's number is written so, and is short: the number that is read. -/
theorem int_of_atoi {l : List UInt8} {v : Int} (h : Lib.atoiAll l = .ok v) : intL9 l = if Lib.itoa v = l ∧ (Lib.trimPrefix l [45]).length ≤ 9 then some v else none := by
  split
  · rename_i hc; exact intL9_iff.2 hc
  · rename_i hc
    cases hq : intL9 l with
    | none => rfl
    | some n =>
      obtain ⟨e1, e2⟩ := intL9_iff.1 hq
      have h2 := atoi_back n (by rw [e1]; exact e2)
      rw [e1, h] at h2
      injection h2 with h2
      subst h2
      exact absurd ⟨e1, e2⟩ hc
theorem int_of_bad {l : List UInt8} (h : ∀ v, Lib.atoiAll l ≠ .ok v) : intL9 l = none := by
  cases hq : intL9 l with
  | none => rfl
  | some n =>
    obtain ⟨e1, e2⟩ := intL9_iff.1 hq
    have h2 := atoi_back n (by rw [e1]; exact e2)
    rw [e1] at h2
    exact absurd h2 (h n)
end Go.Proofs.YtakidgndipnciaaDoor
