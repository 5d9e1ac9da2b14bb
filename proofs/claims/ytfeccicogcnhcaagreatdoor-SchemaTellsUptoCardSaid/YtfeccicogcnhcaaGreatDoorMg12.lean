/- Parts: WdP, WdA, WdB, WdC, WdD, TypI, FldA. -/
import Derived.Test.YtfeccicogcnhcaaGreatDoorMg08
import Derived.Lib.SpaceUEq
import Derived.Laws.RangeAny
import Derived.Test.YtfeccicogcnhcaaGreatDoorMg09
import Derived.Lib.OthersKept
import Derived.Lib.RuneBytes
import Derived.WalkMore
import Derived.Stop.FmtQuoteTie
import Derived.Deep.DeepCutAuto
import Derived.Deep.LoopGhost
import Derived.Lib.IndexAny
import Derived.Shelf.Strings.IndexAnyAll
import Derived.Test.YtfeccicogcnhcaaGreatDoorMg10
import Derived.BigRegion
import Derived.Deep.RegionLaw
/- Plain: runes and bytes: what a scan by runes finds of two ASCII signs. No condition. -/
namespace Go.Proofs.YtfeccicogcnhcaaGreatDoor
open Go Go.RowKit

theorem get_byte (s : ByteArray) (i : Nat) (h : i < s.size) : s.data.toList[i]? = some (s[i]'h) := Lib.data_getElem? s i h
/-- A rune at hand: one ASCII byte, or bytes that are none. -/
theorem rune_step (s : ByteArray) (pos : Nat) (h : pos < s.size) :
    ((s[pos]'h).toNat < 128 ∧ Utf8.decode s pos = ((s[pos]'h).toNat, 1)) ∨
    (128 ≤ (Utf8.decode s pos).1 ∧ 1 ≤ (Utf8.decode s pos).2 ∧ pos + (Utf8.decode s pos).2 ≤ s.size ∧ ∀ j, pos ≤ j → j < pos + (Utf8.decode s pos).2 → ∀ b, s.data.toList[j]? = some b → 128 ≤ b.toNat) := by
  by_cases ha : (s[pos]'h).toNat < 128
  · exact .inl ⟨ha, decode_ascii s pos h ha⟩
  · have hh := decode_high s pos h (by omega)
    have hN := Lib.decode_N s pos
    have hc := Lib.decodeN_conts (s.data.toList.length - pos) (s.data.toList.getD pos 0).toNat (s.data.toList.getD (pos + 1) 0).toNat (s.data.toList.getD (pos + 2) 0).toNat (s.data.toList.getD (pos + 3) 0).toNat
    rw [← hN] at hc
    obtain ⟨c2, c3, c4, c5⟩ := hc
    have hsz := Lib.size_eq s
    refine .inr ⟨hh.1, hh.2, by omega, fun j h1 h2 b hb => ?_⟩
    have hg : ∀ k, s.data.toList.getD k 0 = (s.data.toList[k]?).getD 0 := fun k => by simp [List.getD]
    rcases (by omega : j = pos ∨ j = pos + 1 ∨ j = pos + 2 ∨ j = pos + 3) with rfl | rfl | rfl | rfl
    · rw [get_byte s j h] at hb
      injection hb with hb
      rw [← hb]; omega
    · have := (c2 (by omega)).1
      rw [hg, hb] at this
      simp only [Option.getD_some] at this
      omega
    · have := (c3 (by omega)).1
      rw [hg, hb] at this
      simp only [Option.getD_some] at this
      omega
    · have := (c4 (by omega)).1
      rw [hg, hb] at this
      simp only [Option.getD_some] at this
      omega
/-- Neither of the two signs, up to here. -/
def NoTwo (l : List UInt8) (k : Nat) : Prop := ∀ j, j < k → ∀ b, l[j]? = some b → b ≠ 44 ∧ b ≠ 58
theorem NoTwo.zero (l : List UInt8) : NoTwo l 0 := fun _ h => absurd h (by omega)
theorem NoTwo.more {s : ByteArray} {pos : Nat} (hn : NoTwo s.data.toList pos) (h : pos < s.size) (hr : (Utf8.decode s pos).1 ≠ 44 ∧ (Utf8.decode s pos).1 ≠ 58) : NoTwo s.data.toList (pos + (Utf8.decode s pos).2) := by
  intro j hj b hb
  by_cases hjp : j < pos
  · exact hn j hjp b hb
  · rcases rune_step s pos h with ⟨h1, h2⟩ | ⟨h1, h2, h3, h4⟩
    · rw [h2] at hj hr
      have hj2 : j = pos := by
        have : (((s[pos]'h).toNat, 1) : Nat × Nat).2 = 1 := rfl
        omega
      subst hj2
      rw [get_byte s j h] at hb
      injection hb with hb
      rw [← hb]
      exact ⟨fun e => hr.1 (by rw [e]; rfl), fun e => hr.2 (by rw [e]; rfl)⟩
    · have := h4 j (by omega) hj b hb
      exact ⟨fun e => by rw [e] at this; exact absurd this (by decide), fun e => by rw [e] at this; exact absurd this (by decide)⟩
theorem NoTwo.all {l : List UInt8} (h : NoTwo l l.length) : (l.any fun c => c == 44 || c == 58) = false := by
  rw [List.any_eq_false]
  intro b hb
  obtain ⟨j, hj⟩ := List.mem_iff_getElem?.1 hb
  have := h j (List.getElem?_eq_some_iff.1 hj).1 b hj
  simp [this.1, this.2]
theorem two_hit {s : ByteArray} {pos : Nat} (h : pos < s.size) (hr : (Utf8.decode s pos).1 = 44 ∨ (Utf8.decode s pos).1 = 58) : (s.data.toList.any fun c => c == 44 || c == 58) = true := by
  rcases rune_step s pos h with ⟨h1, h2⟩ | ⟨h1, _⟩
  · rw [h2] at hr
    have hr : (s[pos]'h).toNat = 44 ∨ (s[pos]'h).toNat = 58 := hr
    refine List.any_eq_true.2 ⟨s[pos]'h, List.mem_iff_getElem?.2 ⟨pos, get_byte s pos h⟩, ?_⟩
    rcases hr with e | e
    · rw [UInt8.toNat_inj.mp (show (s[pos]'h).toNat = (44 : UInt8).toNat from e)]; rfl
    · rw [UInt8.toNat_inj.mp (show (s[pos]'h).toNat = (58 : UInt8).toNat from e)]; rfl
  · omega

theorem enc_high (R : Nat) (h1 : 128 ≤ R) (h2 : R ≤ 1114111) (hv : R < 55296 ∨ 57343 < R) : ∃ c : UInt8, (2 < (Utf8.encode (R : Int)).size ∧ (Utf8.encode (R : Int)).size ≤ 4) ∨ ((Utf8.encode (R : Int)).size = 2 ∧ (Utf8.encode (R : Int)).data.toList[1]? = some c ∧ 128 ≤ c.toNat) := by
  have hsz := Lib.size_eq (Utf8.encode (R : Int))
  by_cases c2 : R < 2048
  · have e := Go.Extern.FmtText.enc2 R (by omega) c2
    refine ⟨UInt8.ofNat (128 + R % 64), .inr ⟨by rw [hsz, e]; rfl, by rw [e]; rfl, ?_⟩⟩
    rw [UInt8.toNat_ofNat']
    omega
  · refine ⟨0, .inl ?_⟩
    by_cases c3 : R < 65536
    · have e := Go.Extern.FmtText.enc3 R c2 c3 (by omega)
      rw [hsz, e]; exact ⟨by simp, by simp⟩
    · have e := Go.Extern.FmtText.enc4 R c3 h2
      rw [hsz, e]; exact ⟨by simp, by simp⟩
theorem vr_ok (R : Nat) (w : World) (h2 : R ≤ 1114111) (hv : R < 55296 ∨ 57343 < R) : Calls Tryz.prog 141 #[.int .i32 R] w fun e w' => e = .returned (.bool true) ∧ w' = w := by
  have b1 : (0 : Int) ≤ (R : Int) := by omega
  have b2 : (R : Int) ≤ 1114111 := by omega
  go_enter Tryz.func141, Tryz.ntmps141
  by_cases h : R < 55296
  · have b3 : (R : Int) < 55296 := by omega
    go_wp2
    go_ret
    exact ⟨rfl, rfl⟩
  · have b3 : ¬ (R : Int) < 55296 := by omega
    have b4 : (57343 : Int) < (R : Int) := by omega
    go_wp2
    go_ret
    exact ⟨rfl, rfl⟩
set_option maxRecDepth 100000 in
set_option maxHeartbeats 4000000 in
theorem ir_high (R : Nat) (w : World) (h1 : 128 ≤ R) (h2 : R ≤ 1114111) (hne : R ≠ 65533) :
    Calls Tryz.prog 127 #[.string ⟨#[44, 58]⟩, .int .i32 R] w fun e w' => e = .returned (.int .i64 (-1)) ∧ Below w.heap.size w w' := by
  have b1 : (0 : Int) ≤ (R : Int) := by omega
  have b2 : ¬ (R : Int) < 128 := by omega
  have b3 : ((R : Int) == 65533) = false := by simp; omega
  go_enter Tryz.func127, Tryz.ntmps127
  go_upto_region 43 with fail
  by_cases hv : R < 55296 ∨ 57343 < R
  case neg =>
    have b4 : ¬ (R : Int) < 55296 := by omega
    have b5 : ¬ (57343 : Int) < (R : Int) := by omega
    go_wp2
    go_ret
    exact ⟨rfl, Below.refl _ _⟩
  have hx := vr_ok R w h2 hv
  go_wp2_with (first
    | (go_at_call 141; refine hx.mono ?_; clear hx; rintro e w9 ⟨rfl, hw⟩; subst hw)
    | fail)
  have hcv : ∀ W : World, (convert 21 9 (.int .i32 (R : Int))).run Tryz.prog W = .ok (.string (Utf8.encode (R : Int))) W := fun W => by
    have hs : Tryz.prog.underlying 21 = some (.int .i32) := by kernel_rfl
    have hd : Tryz.prog.underlying 9 = some .string := by kernel_rfl
    simp [convert, run_underlying hs, run_underlying hd, Conv.intToString]
  obtain ⟨c, hE⟩ := enc_high R h1 h2 hv
  generalize Utf8.encode (R : Int) = E at *
  refine wp_scope_straight ?_
  rcases hE with ⟨hE, hE4⟩ | ⟨hE, hE1, hE2⟩
  · obtain ⟨m, hm⟩ : ∃ m : Nat, E.size = m + 1 := ⟨E.size - 1, by omega⟩
    have hs1 : (E.size : Int) - 1 = (m : Int) := by omega
    have b6 : ¬ ((m : Int) < 2) := by omega
    have b7 : (m : Int) ≤ 4 := by omega
    clear hE hE4
    go_upto_region 5 with fail
    go_loop [9] (fun i => i = .int .i64 (m : Int)) (fun _ => 0)
    case atStart => rfl
    case round =>
      obtain rfl := hrel
      go_wp2
      go_ret
      exact ⟨rfl, Below.refl _ _⟩
  · have hEi : E[1]'(by omega) = c := by
      have h := Lib.data_getElem? E 1 (by omega)
      rw [hE1] at h
      exact (Option.some.inj h).symm
    have hsz : (E.size : Int) = 2 := by omega
    have hc : (((((⟨#[44, 58]⟩ : ByteArray)[1]'(by decide)).toNat : Int)) != (c.toNat : Int)) = true := by
      have h58 : (((⟨#[44, 58]⟩ : ByteArray)[1]'(by decide)).toNat) = 58 := rfl
      rw [h58]; simp; omega
    have hx : ∀ t wx, Calls Tryz.prog 53 #[.string t, .int .u8 (c.toNat : Int)] wx fun e w' => e = .returned (.int .i64 (Lib.indexByte t.data.toList c)) ∧ w' = wx := fun t wx => (tx_idxByte t (c.toNat : Int) wx).mono fun e w' ⟨h1, h2⟩ => ⟨by rw [h1]; simp, h2.symm⟩
    have HX := Lib.hid hx
    have hw2 : IntKind.i64.wrap 2 = 2 := by decide
    clear hx
    clear hE1
    go_upto_region 5 with fail
    go_loop [9] (fun i => i = .int .i64 1) (fun _ => 0)
    case atStart => rfl
    case round =>
      obtain rfl := hrel
      go_upto_region 6 with fail
      refine wp_scope_straight ?_
      go_wp2_with fail
      go_quiet (fail)
      go_wp2_with fail
      have hq := Go.below_drewN (Below.refl w9.heap.size w9) nq
      generalize w9.drewN nq = w10 at *
      go_quiet ((go_at_call 53; exact Calls.quiet_of_same (HX.out _ _)))
      have hmin : Lib.indexByte (ByteArray.empty).data.toList c = -1 := rfl
      have hq2 := Go.below_drewN hq nq
      go_wp2
      simp (config := { zetaDelta := true }) only [Exit.noGoto, Exit.inBlock, Exit.then]
      go_ret
      exact ⟨rfl, hq2⟩

theorem two_idx (c : UInt8) : (0 ≤ Lib.indexByte [44, 58] c) ↔ (c.toNat = 44 ∨ c.toNat = 58) := by
  have h := Lib.contains_iff_indexByte [44, 58] c
  have e : (([44, 58] : List UInt8).contains c = true) ↔ (c.toNat = 44 ∨ c.toNat = 58) := by
    rw [List.contains_iff_mem]
    simp only [List.mem_cons, List.not_mem_nil, or_false]
    constructor
    · rintro (rfl | rfl) <;> decide
    · rintro (h | h)
      · exact .inl (UInt8.toNat_inj.mp h)
      · exact .inr (UInt8.toNat_inj.mp h)
  rw [← e, h]
  simp
set_option maxRecDepth 100000 in
set_option maxHeartbeats 4000000 in
theorem ir_low (R : Nat) (w : World) (h1 : R < 128) :
    Calls Tryz.prog 127 #[.string ⟨#[44, 58]⟩, .int .i32 R] w fun e w' => ∃ k : Int, e = .returned (.int .i64 k) ∧ ((0 ≤ k) ↔ (R = 44 ∨ R = 58)) ∧ Below w.heap.size w w' := by
  have b1 : (0 : Int) ≤ (R : Int) := by omega
  have b2 : (R : Int) < 128 := by omega
  have hx := tx_idxByte ⟨#[44, 58]⟩ (R : Int) w
  have HE : Hid ((0 ≤ Lib.indexByte ([44, 58] : List UInt8) ((R : Int).toNat.toUInt8)) ↔ (R = 44 ∨ R = 58)) := by
    unfold Hid
    rw [two_idx]
    have e : ((R : Int).toNat.toUInt8).toNat = R := by
      show (UInt8.ofNat R).toNat = R
      rw [UInt8.toNat_ofNat']; omega
    rw [e]
  go_enter Tryz.func127, Tryz.ntmps127
  go_wp2_with (first
    | (go_at_call 53; refine hx.mono ?_; clear hx; rintro e w9 ⟨rfl, hw⟩; subst hw)
    | fail)
  go_ret
  exact ⟨_, rfl, HE.out, Below.refl _ _⟩
set_option maxRecDepth 100000 in
set_option maxHeartbeats 4000000 in
theorem ir_bad (w : World) :
    Calls Tryz.prog 127 #[.string ⟨#[44, 58]⟩, .int .i32 65533] w fun e w' => e = .returned (.int .i64 (-1)) ∧ Below w.heap.size w w' := by
  have d0 : Utf8.decode (⟨#[44, 58]⟩ : ByteArray) 0 = (44, 1) := by decide +kernel
  have d1 : Utf8.decode (⟨#[44, 58]⟩ : ByteArray) 1 = (58, 1) := by decide +kernel
  go_enter Tryz.func127, Tryz.ntmps127
  go_upto_region 37 with fail
  go_upto_region 38 with fail
  go_loopg [] 2 (fun gf wx => ∃ pos : Nat, wx.heap[w.heap.size]? = some (.stringIter ⟨#[44, 58]⟩ pos) ∧ Below w.heap.size w wx ∧ pos + gf = 2)
  case atStart => exact ⟨0, World.iter_heap w _ 0, (Below.refl _ w).alloc (Nat.le_refl _) _, rfl⟩
  case round =>
    obtain ⟨pos, hit, hbw, hfu⟩ := hrel
    by_cases hps : pos < 2
    · obtain ⟨g', rfl⟩ : ∃ g', gk = g' + 1 := ⟨gk - 1, by omega⟩
      obtain ⟨r, hd, hr⟩ : ∃ r : Nat, Utf8.decode (⟨#[44, 58]⟩ : ByteArray) pos = (r, 1) ∧ ((r : Int) == 65533) = false := by
        rcases (by omega : pos = 0 ∨ pos = 1) with rfl | rfl
        · exact ⟨44, d0, by decide⟩
        · exact ⟨58, d1, by decide⟩
      have hnx : ∀ ty, (Instr.next (.pointer (some ⟨w.heap.size, 0, none⟩)) true ty).run Tryz.prog wr = _ := fun ty => Lib.run_next_any_at wr w.heap.size ⟨#[44, 58]⟩ pos ty hit hps
      rw [hd] at hnx
      have hit2 := Lib.iterAt_heap wr w.heap.size ⟨#[44, 58]⟩ pos (pos + 1) hit
      have hbw2 := Lib.below_iterAt hbw (k := w.heap.size) (Nat.le_refl _) ⟨#[44, 58]⟩ (pos + 1)
      obtain ⟨W, hWd⟩ : ∃ W, wr.iterAt w.heap.size ⟨#[44, 58]⟩ (pos + 1) = W := ⟨_, rfl⟩
      rw [hWd] at hnx hit2 hbw2
      clear hd d0 d1
      go_wp2
      go_roundg g'
      case measure => omega
      case rel => exact ⟨pos + 1, hit2, hbw2, by omega⟩
    · have hnx : ∀ ty, (Instr.next (.pointer (some ⟨w.heap.size, 0, none⟩)) true ty).run Tryz.prog wr = _ := fun ty => Lib.run_next_end_at wr w.heap.size ⟨#[44, 58]⟩ pos ty hit hps
      clear d0 d1
      go_wp2
      go_ret
      exact ⟨rfl, hbw⟩
theorem ir_any (R : Nat) (w : World) (h2 : R ≤ 1114111) :
    Calls Tryz.prog 127 #[.string ⟨#[44, 58]⟩, .int .i32 R] w fun e w' => ∃ k : Int, e = .returned (.int .i64 k) ∧ ((0 ≤ k) ↔ (R = 44 ∨ R = 58)) ∧ Below w.heap.size w w' := by
  by_cases h1 : R < 128
  · exact ir_low R w h1
  · by_cases hne : R = 65533
    · subst hne
      exact (ir_bad w).mono fun e w' ⟨he, hb⟩ => ⟨_, he, by omega, hb⟩
    · exact (ir_high R w (by omega) h2 hne).mono fun e w' ⟨he, hb⟩ => ⟨_, he, by omega, hb⟩

def twoIn (l : List UInt8) : Bool := l.any fun c => c == 44 || c == 58
theorem sua_no (n : Int) (w : World) (h : n ≤ 8) : Calls Tryz.prog 128 #[.int .i64 n] w fun e w' => e = .returned (.bool false) ∧ w' = w := by
  have h1 : ¬ (8 : Int) < n := by omega
  go_enter Tryz.func128, Tryz.ntmps128
  go_wp2
  go_ret
  exact ⟨by simp, rfl⟩
set_option maxRecDepth 100000 in
set_option maxHeartbeats 4000000 in
theorem ia_short (s : ByteArray) (w : World) (h8 : s.size ≤ 8) :
    Calls Tryz.prog 110 #[.string s, .string ⟨#[44, 58]⟩] w fun e w' => ∃ k : Int, e = .returned (.int .i64 k) ∧ ((0 ≤ k) ↔ twoIn s.data.toList = true) ∧ Below w.heap.size w w' := by
  have hx := sua_no (s.size : Int) w (by omega)
  have HIR := Lib.hid (fun R W h => ir_any R W h)
  go_enter Tryz.func110, Tryz.ntmps110
  go_upto_region 18 with (go_at_call 128; refine hx.mono ?_; clear hx; rintro e w9 ⟨rfl, hw⟩; have hw := hw.symm; subst hw)
  go_loopg [] s.size (fun gf wx => ∃ pos : Nat, wx.heap[w.heap.size]? = some (.stringIter s pos) ∧ Below w.heap.size w wx ∧ Hid (NoTwo s.data.toList pos) ∧ s.size ≤ pos + gf)
  case atStart => exact ⟨0, World.iter_heap w _ 0, (Below.refl _ w).alloc (Nat.le_refl _) _, NoTwo.zero _, by omega⟩
  case round =>
    obtain ⟨pos, hit, hbw, HN, hfu⟩ := hrel
    by_cases hps : pos < s.size
    · obtain ⟨g', rfl⟩ : ∃ g', gk = g' + 1 := ⟨gk - 1, by omega⟩
      have hnx : ∀ ty, (Instr.next (.pointer (some ⟨w.heap.size, 0, none⟩)) true ty).run Tryz.prog wr = _ := fun ty => Lib.run_next_any_at wr w.heap.size s pos ty hit hps
      have hwd := Lib.width_pos s pos
      have hrl := Lib.rune_le s pos
      have HMO : Hid ((Utf8.decode s pos).1 ≠ 44 ∧ (Utf8.decode s pos).1 ≠ 58 → NoTwo s.data.toList (pos + (Utf8.decode s pos).2)) := fun h => HN.out.more hps h
      have HHT : Hid ((Utf8.decode s pos).1 = 44 ∨ (Utf8.decode s pos).1 = 58 → twoIn s.data.toList = true) := fun h => two_hit hps h
      generalize (Utf8.decode s pos).1 = R at *
      generalize (Utf8.decode s pos).2 = K at *
      have hit2 := Lib.iterAt_heap wr w.heap.size s pos (pos + K) hit
      have hbw2 := Lib.below_iterAt hbw (k := w.heap.size) (Nat.le_refl _) s (pos + K)
      obtain ⟨W, hWd⟩ : ∃ W, wr.iterAt w.heap.size s (pos + K) = W := ⟨_, rfl⟩
      rw [hWd] at hnx hit2 hbw2
      have hx := HIR.out R W hrl
      clear HN hit hbw hWd
      by_cases hR : R = 44 ∨ R = 58
      · go_wp2_with (first
          | (go_at_call 127; refine hx.mono ?_; clear hx; rintro e W2 ⟨k, rfl, hk, hb2⟩; have hk0 : 0 ≤ k := hk.2 hR)
          | fail)
        go_ret
        exact ⟨_, rfl, ⟨fun _ => HHT.out hR, fun _ => by omega⟩, hbw2.trans (hb2.mono hbw2.size)⟩
      · go_wp2_with (first
          | (go_at_call 127; refine hx.mono ?_; clear hx; rintro e W2 ⟨k, rfl, hk, hb2⟩; have hk0 : ¬ 0 ≤ k := fun h => hR (hk.1 h))
          | fail)
        go_roundg g'
        case measure => omega
        case rel => exact ⟨pos + K, (hb2.block _ (Array.getElem?_eq_some_iff.1 hit2).1).trans hit2, hbw2.trans (hb2.mono hbw2.size), HMO.out ⟨fun h => hR (.inl h), fun h => hR (.inr h)⟩, by omega⟩
    · have hnx : ∀ ty, (Instr.next (.pointer (some ⟨w.heap.size, 0, none⟩)) true ty).run Tryz.prog wr = _ := fun ty => Lib.run_next_end_at wr w.heap.size s pos ty hit hps
      have hF : twoIn s.data.toList = false := NoTwo.all fun j hj b hb => HN.out j (by have := Lib.size_eq s; omega) b hb
      have HF := Lib.hid hF
      clear hF
      go_wp2
      go_ret
      exact ⟨_, rfl, by rw [HF.out]; simp, hbw⟩

-- written by shelflay.py for the seat YtfeccicogcnhcaaGreatDoor
def anyLay_ren : Go.Shelf.Ren := ⟨fun | 153 => 110 | 152 => 127 | 226 => 128 | 227 => 129 | 228 => 130 | 137 => 53 | 119 => 141 | 224 => 125 | 225 => 124 | 217 => 80 | 266 => 105 | n => n, fun | 9 => 9 | 3 => 3 | 4 => 4 | 5 => 5 | 21 => 21 | 117 => 182 | 116 => 181 | 0 => 0 | 46 => 171 | 124 => 198 | 20 => 20 | n => n, fun | n => n⟩
theorem anyLay : Go.Proofs.Lays.n153 Tryz.prog anyLay_ren := {
  mixed := by kernel_rfl,
  f119 := Tryz.func141.trans (congrArg some (by kernel_rfl)),
  f137 := Tryz.func53.trans (congrArg some (by kernel_rfl)),
  f152 := Tryz.func127.trans (congrArg some (by kernel_rfl)),
  f153 := Tryz.func110.trans (congrArg some (by kernel_rfl)),
  f217 := Tryz.func80.trans (congrArg some (by kernel_rfl)),
  f224 := Tryz.func125.trans (congrArg some (by kernel_rfl)),
  f225 := Tryz.func124.trans (congrArg some (by kernel_rfl)),
  f226 := Tryz.func128.trans (congrArg some (by kernel_rfl)),
  f227 := Tryz.func129.trans (congrArg some (by kernel_rfl)),
  f228 := Tryz.func130.trans (congrArg some (by kernel_rfl)),
  f266 := Tryz.func105.trans (congrArg some (by kernel_rfl)),
  t0 := Tryz.underlying0,
  a0 := Tryz.isAgg0,
  z0 := Tryz.sizeOf0,
  v0 := Tryz.zeroValue0,
  t3 := Tryz.underlying3,
  a3 := Tryz.isAgg3,
  z3 := Tryz.sizeOf3,
  v3 := Tryz.zeroValue3,
  t4 := Tryz.underlying4,
  a4 := Tryz.isAgg4,
  z4 := Tryz.sizeOf4,
  v4 := Tryz.zeroValue4,
  t5 := Tryz.underlying5,
  a5 := Tryz.isAgg5,
  z5 := Tryz.sizeOf5,
  v5 := Tryz.zeroValue5,
  t9 := Tryz.underlying9,
  a9 := Tryz.isAgg9,
  z9 := Tryz.sizeOf9,
  v9 := Tryz.zeroValue9,
  t21 := Tryz.underlying21,
  a21 := Tryz.isAgg21,
  z21 := Tryz.sizeOf21,
  v21 := Tryz.zeroValue21,
  t46 := Tryz.underlying171,
  a46 := Tryz.isAgg171,
  z46 := Tryz.sizeOf171,
  v46 := Tryz.zeroValue171,
  t116 := Tryz.underlying181,
  a116 := Tryz.isAgg181,
  z116 := Tryz.sizeOf181,
  t117 := Tryz.underlying182,
  a117 := Tryz.isAgg182,
  z117 := Tryz.sizeOf182,
  v117 := Tryz.zeroValue182,
  t124 := Tryz.underlying198,
  a124 := Tryz.isAgg198,
  z124 := Tryz.sizeOf198,
  v124 := Tryz.zeroValue198 }

theorem two_any : ∀ l : List UInt8, (0 ≤ Lib.indexAny l [44, 58]) ↔ twoIn l = true
  | [] => by simp [Lib.indexAny, twoIn]
  | b :: l => by
    have ih := two_any l
    have hge := Lib.indexAny_ge [44, 58] l
    have hc : (([44, 58] : List UInt8).contains b) = (b == 44 || b == 58) := by
      rw [Bool.eq_iff_iff, List.contains_iff_mem]; simp
    have hu : twoIn (b :: l) = ((b == 44 || b == 58) || twoIn l) := rfl
    have hi : Lib.indexAny (b :: l) [44, 58] = if (([44, 58] : List UInt8).contains b) = true then 0 else if (Lib.indexAny l [44, 58] == -1) = true then -1 else Lib.indexAny l [44, 58] + 1 := rfl
    rw [hu, hi, hc]
    cases hb : (b == 44 || b == 58) with
    | true => simp
    | false =>
      rw [if_neg (by simp), Bool.false_or, ← ih]
      by_cases h1 : Lib.indexAny l [44, 58] = -1
      · rw [h1]; simp
      · rw [if_neg (by simpa using h1)]; omega
theorem any_info : (Tryz.prog.info? (anyLay_ren.t 116)).map (fun i => (i.zero, i.size)) = some (some (.agg (Array.replicate 256 (.bool false))), 256) := by kernel_rfl
theorem ia_long (s : ByteArray) (w : World) (h8 : 8 < s.size) (hs : Sm s) :
    Calls Tryz.prog 110 #[.string s, .string ⟨#[44, 58]⟩] w fun e w' => ∃ k : Int, e = .returned (.int .i64 k) ∧ ((0 ≤ k) ↔ twoIn s.data.toList = true) ∧ Below w.heap.size w w' :=
  (Any.strings_IndexAny_long anyLay (zero_of_info any_info).1 (zero_of_info any_info).2 s ⟨#[44, 58]⟩ w (by decide) h8 (by unfold Sm at hs; omega) (by decide) (fun j b hb => by
    have : b ∈ ([44, 58] : List UInt8) := List.mem_of_getElem? hb
    simp at this
    rcases this with rfl | rfl <;> decide)).mono fun e w' ⟨he, hw⟩ => ⟨_, he, two_any _, by
      rw [hw]
      exact ((Below.refl _ _).alloc (Nat.le_refl _) _).alloc (by simp) _⟩
theorem ia_any (s : ByteArray) (w : World) (hs : Sm s) :
    Calls Tryz.prog 110 #[.string s, .string ⟨#[44, 58]⟩] w fun e w' => ∃ k : Int, e = .returned (.int .i64 k) ∧ ((0 ≤ k) ↔ twoIn s.data.toList = true) ∧ Below w.heap.size w w' := by
  by_cases h8 : s.size ≤ 8
  · exact ia_short s w h8
  · exact ia_long s w (by omega) hs
theorem ca_any (s : ByteArray) (w : World) (hs : Sm s) :
    Calls Tryz.prog 85 #[.string s, .string ⟨#[44, 58]⟩] w fun e w' => e = .returned (.bool (twoIn s.data.toList)) ∧ Below w.heap.size w w' := by
  have hx := ia_any s w hs
  generalize twoIn s.data.toList = T at *
  go_enter Tryz.func85, Tryz.ntmps85
  go_wp2_with (first
    | (go_at_call 110; refine hx.mono ?_; clear hx; rintro e w9 ⟨k, rfl, hk, hb⟩)
    | fail)
  go_ret
  exact ⟨by cases T <;> simp, hb⟩
theorem word_any (s : ByteArray) (w : World) (hs : Sm s) :
    Calls Tryz.prog 56 #[.string s] w fun e w' => e = .returned (.bool (wordB s.data.toList)) ∧ Below w.heap.size w w' := by
  have hx := ca_any s w hs
  by_cases h0 : s = .empty
  · have he : s.toList = [] := by rw [h0]; exact empty_list
    have heb : s.toList.isEmpty = true := by rw [he]; rfl
    have HW : Hid (wordB s.data.toList = false) := by unfold Hid; rw [h0]; rfl
    clear hx h0
    go_enter Tryz.func56, Tryz.ntmps56
    go_wp2
    go_ret
    rw [HW.out]
    exact ⟨rfl, Below.refl _ _⟩
  · have he : ¬ s.toList = [] := fun h => h0 (by rw [← bytes_eq, h, empty_list])
    have heb : s.toList.isEmpty = false := List.isEmpty_eq_false_iff.2 he
    have HW : Hid (wordB s.data.toList = !twoIn s.data.toList) := by
      unfold Hid wordB twoIn
      have : s.data.toList.isEmpty = false := by
        rw [List.isEmpty_eq_false_iff]
        intro h
        apply h0
        rw [← bs_of s, h]; rfl
      rw [this]; rfl
    clear h0
    go_enter Tryz.func56, Tryz.ntmps56
    go_wp2_with (first
      | (go_at_call 85; refine hx.mono ?_; clear hx; rintro e w9 ⟨rfl, hb⟩)
      | fail)
    go_ret
    rw [HW.out]
    exact ⟨by simp, hb⟩

def Typ4 (w : World) : Prop := TypOk w ∧ w.cell? ⟨0, 0, none⟩ = some (.string (bs (typL 0)))
theorem Typ4.below {w w' : World} (h : Typ4 w) (hb : Below w.heap.size w w') : Typ4 w' := ⟨h.1.below hb, cell_below hb h.2⟩
theorem typ_cell {w : World} (h : Typ4 w) {k : Nat} (hk : k < 4) : w.cell? ⟨0, k, none⟩ = some (.string (bs (typL (k : Int)))) := by
  obtain ⟨⟨h1, h2, h3⟩, h0⟩ := h
  rcases (by omega : k = 0 ∨ k = 1 ∨ k = 2 ∨ k = 3) with rfl | rfl | rfl | rfl
  · exact h0
  · exact h1
  · exact h2
  · exact h3
theorem typN_at {l : List UInt8} {k : Nat} (hk : k < 4) (h : l = typL (k : Int)) : typN l = (k : Int) := by
  subst h
  rcases (by omega : k = 0 ∨ k = 1 ∨ k = 2 ∨ k = 3) with rfl | rfl | rfl | rfl <;> decide
theorem typN_none {l : List UInt8} (h : ∀ k : Nat, k < 4 → l ≠ typL (k : Int)) : typN l = -1 := by
  unfold typN
  rw [if_neg (show ¬ l = [] from h 0 (by omega)), if_neg (show ¬ l = [105, 110, 116] from h 1 (by omega)), if_neg (show ¬ l = [98, 111, 111, 108] from h 2 (by omega)), if_neg (show ¬ l = [116, 101, 120, 116] from h 3 (by omega))]
set_option maxHeartbeats 1000000 in
theorem ti_any (s : ByteArray) (w : World) (hT : Typ4 w) :
    Calls Tryz.prog 88 #[.slice (some ⟨0, 0, none⟩) 4 4, .string s] w fun e w' => e = .returned (.int .i64 (typN s.data.toList)) ∧ w' = w := by
  have HT := Lib.hid hT
  clear hT
  go_enter Tryz.func88, Tryz.ntmps88
  go_wp2
  go_loop [8] (fun i => ∃ k : Nat, k ≤ 4 ∧ i = .int .i64 k ∧ Hid (∀ j : Nat, j < k → s.data.toList ≠ typL (j : Int))) (fun i => 4 - (intOf i).toNat)
  case atStart => exact ⟨0, by omega, rfl, fun j hj => absurd hj (by omega)⟩
  case round =>
    obtain ⟨k, hk, rfl, HN⟩ := hrel
    by_cases hlt : k < 4
    · have hlt' : (k : Int) < 4 := by omega
      have y := typ_cell HT.out hlt
      have HAT := Lib.hid (fun h => typN_at (l := s.data.toList) hlt h)
      have hq := bs_lit (K := s.data.toList) (L := typL (k : Int)) rfl
      rw [bs_of] at hq
      by_cases he : s.data.toList = typL (k : Int)
      · have b1 : (s.toList == (bs (typL (k : Int))).toList) = true := by rw [beq_iff_eq, hq]; exact he
        have b2 : s.toList = (bs (typL (k : Int))).toList := by rw [hq]; exact he
        have HR := Lib.hid (HAT.out he)
        generalize bs (typL (k : Int)) = T at *
        clear hq he HAT HN
        go_wp2
        go_ret
        exact ⟨by rw [HR.out]; rfl, rfl⟩
      · have b1 : (s.toList == (bs (typL (k : Int))).toList) = false := by rw [beq_eq_false_iff_ne, ne_eq, hq]; exact he
        have b2 : ¬ s.toList = (bs (typL (k : Int))).toList := by rw [hq]; exact he
        have HM : Hid (∀ j : Nat, j < k + 1 → s.data.toList ≠ typL (j : Int)) := fun j hj => by
          rcases (by omega : j < k ∨ j = k) with h | rfl
          · exact HN.out j h
          · exact he
        generalize bs (typL (k : Int)) = T at *
        clear hq he HAT HN
        go_wp2
        refine ⟨⟨k + 1, by omega, by go_num, HM⟩, by simp only [intOf]; omega⟩
    · obtain rfl : k = 4 := by omega
      have HR := Lib.hid (typN_none (l := s.data.toList) HN.out)
      clear HN
      go_wp2
      go_ret
      exact ⟨by rw [HR.out]; rfl, rfl⟩

def FldR (l : List UInt8) (w : World) (e : Ending) (w' : World) : Prop := ∃ (nm : ByteArray) (ty : Int) (m k : Bool),
  e = .returned (.tuple #[.agg #[.string nm, .int .i64 ty, .bool m, .bool k], .bool (readFldL l).isSome]) ∧ (∀ f, readFldL l = some f → nm = f.name ∧ ty = f.ty ∧ m = f.must ∧ k = f.key ∧ f.ok) ∧ Below w.heap.size w w'
theorem res4d {w w1 : World} {T : TypeId} {c0 c1 c2 c3 : Value} (a b c d : Value) (hB : Below w.heap.size w w1) (h : w1.heap[w.heap.size]? = some (.cells #[c0, c1, c2, c3] T (0, 0))) :
    Below w.heap.size w ((((w1.setCell ⟨w.heap.size, 0, none⟩ a).setCell ⟨w.heap.size, 1, none⟩ b).setCell ⟨w.heap.size, 2, none⟩ c).setCell ⟨w.heap.size, 3, none⟩ d).drew ∧
    ((((w1.setCell ⟨w.heap.size, 0, none⟩ a).setCell ⟨w.heap.size, 1, none⟩ b).setCell ⟨w.heap.size, 2, none⟩ c).setCell ⟨w.heap.size, 3, none⟩ d).drew.heap[w.heap.size]? = some (.cells #[a, b, c, d] T (0, 0)) :=
  ⟨((((hB.setCell (p := ⟨_, 0, none⟩) (Nat.le_refl _) _).setCell (p := ⟨_, 1, none⟩) (Nat.le_refl _) _).setCell (p := ⟨_, 2, none⟩) (Nat.le_refl _) _).setCell (p := ⟨_, 3, none⟩) (Nat.le_refl _) _).drew,
    setCell_block (setCell_block (setCell_block (setCell_block h 0 a) 1 b) 2 c) 3 d⟩
theorem res4 {w w1 : World} {T : TypeId} {c0 c1 c2 c3 : Value} (a b c d : Value) (hB : Below w.heap.size w w1) (h : w1.heap[w.heap.size]? = some (.cells #[c0, c1, c2, c3] T (0, 0))) :
    Below w.heap.size w ((((w1.setCell ⟨w.heap.size, 0, none⟩ a).setCell ⟨w.heap.size, 1, none⟩ b).setCell ⟨w.heap.size, 2, none⟩ c).setCell ⟨w.heap.size, 3, none⟩ d) ∧
    ((((w1.setCell ⟨w.heap.size, 0, none⟩ a).setCell ⟨w.heap.size, 1, none⟩ b).setCell ⟨w.heap.size, 2, none⟩ c).setCell ⟨w.heap.size, 3, none⟩ d).heap[w.heap.size]? = some (.cells #[a, b, c, d] T (0, 0)) :=
  ⟨(((hB.setCell (p := ⟨_, 0, none⟩) (Nat.le_refl _) _).setCell (p := ⟨_, 1, none⟩) (Nat.le_refl _) _).setCell (p := ⟨_, 2, none⟩) (Nat.le_refl _) _).setCell (p := ⟨_, 3, none⟩) (Nat.le_refl _) _,
    setCell_block (setCell_block (setCell_block (setCell_block h 0 a) 1 b) 2 c) 3 d⟩
theorem typN_i64 (l : List UInt8) : I64 (typN l) := by
  have h : -1 ≤ typN l ∧ typN l ≤ 3 := by unfold typN; split <;> (try split) <;> (try split) <;> (try split) <;> omega
  unfold I64; omega
/-- A guarded call at a step of a region that draws, whatever it answers. -/
theorem step_callxg {P : Program} {ops : Array Oper} {o : Oper} {a : Act} {w : World} {K : Act → World → Prop} {Q : Exit → Act → World → Prop} {E : Prop} (hw : Region.wanted o (yielded ops a.tmps) = true) (g : Nat) (vs : Array Value)
    (hr : (execOp a.eval o).run P w = .ok (.enter g vs) w) {R : Ending → World → Prop}
    (h : Calls P g vs w R) (hk : ∀ e w', R e w' → ∃ u, e = .returned u ∧ K (a.put o.dst u) w') :
    if Region.wanted o (yielded ops a.tmps) = true then Oper.wp P o a w K Q else E := by
  rw [if_pos hw]
  unfold Oper.wp
  rw [hr, Oper.upon_enter]
  exact h.mono fun e w' hR => by
    obtain ⟨u, rfl, hK⟩ := hk e w' hR
    exact hK
set_option maxRecDepth 100000 in
set_option maxHeartbeats 8000000 in
theorem rfld_any (s : ByteArray) (hs : Sm s) (w : World) (hT : TxP w) (hY : Typ4 w) : Calls Tryz.prog 59 #[.string s] w (FldR s.data.toList w) := by
  have hb0 : Below w.heap.size w (w.alloc (.cells #[.string ⟨#[]⟩, .int .i64 0, .bool false, .bool false] 61)) := (Below.refl _ _).alloc (Nat.le_refl _) _
  have hbk := heap_alloc_new w (.cells #[.string ⟨#[]⟩, .int .i64 0, .bool false, .bool false] 61)
  have hle := len_size s
  unfold Sm at hs
  have hx := tx_cut s 58 _ (hT.below hb0) (by omega)
  have HY := Lib.hid hY
  obtain ⟨hl1, hl2⟩ := cut_lens 58 s.data.toList
  have HD : Hid (∀ a r f, (Lib.cut s.data.toList [58]).1 = a → (Lib.cut s.data.toList [58]).2.1 = r → (Lib.cut s.data.toList [58]).2.2 = f → readFldL s.data.toList = if f = true ∧ wordB a = true ∧ 0 < typN (signB r).2.2 then some ⟨bs a, typN (signB r).2.2, (signB r).1, (signB r).2.1⟩ else none) := fun a r f h1 h2 h3 => by subst h1; subst h2; subst h3; rfl
  have HD2 := Lib.hid (HD.out _ _ _ rfl rfl rfl)
  generalize (Lib.cut s.data.toList [58]).1 = a at *
  generalize (Lib.cut s.data.toList [58]).2.1 = r at *
  generalize (Lib.cut s.data.toList [58]).2.2 = f at *
  clear hT hY HD
  go_enter Tryz.func59, Tryz.ntmps59
  go_upto_region 1 with fail
  generalize w.alloc (.cells #[.string ⟨#[]⟩, .int .i64 0, .bool false, .bool false] 61) = W0 at *
  go_wp2_with fail
  refine hx.mono ?_
  clear hx
  rintro e w1 ⟨rfl, hb1⟩
  have hB1 := hb0.trans (hb1.mono hb0.size)
  have hbk1 := (hb1.block _ (Array.getElem?_eq_some_iff.1 hbk).1).trans hbk
  have ha2 := (Below.refl w1.heap.size w1).alloc (Nat.le_refl _) (.cells #[.string (bs a), .int .i64 0, .bool false, .bool false] 61)
  have hbx := heap_alloc_new w1 (.cells #[.string (bs a), .int .i64 0, .bool false, .bool false] 61)
  have hbk2 := (ha2.block _ (Array.getElem?_eq_some_iff.1 hbk1).1).trans hbk1
  have hB2 := hB1.trans (ha2.mono hB1.size)
  have hqw : w.heap.size ≤ w1.heap.size := Nat.le_trans hb0.size hb1.size
  have hne : w.heap.size ≠ w1.heap.size := by have := (Array.getElem?_eq_some_iff.1 hbk1).1; omega
  clear hb0 hb1 hbk hbk1 hB1 ha2
  go_upto_region 3 with fail
  generalize w1.alloc (.cells #[.string (bs a), .int .i64 0, .bool false, .bool false] 61) = W2 at *
  generalize hq1 : w1.heap.size = q at *
  clear hq1
  have hx := tx_cutSuffix (bs r) 33 W2 (by rw [bs_size]; omega)
  rw [bs_list] at hx
  have y0 := block_cell hbx 0
  have y2 := block_cell hbx 2
  have y3 := block_cell hbx 3
  have g2 := block_free hbx 2
  have g3 := block_free hbx 3
  have HSG : Hid (signB r = if Lib.hasSuffix r [33] = true then (true, false, Lib.trimSuffix r [33]) else if Lib.hasSuffix r [42] = true then (true, true, Lib.trimSuffix r [42]) else (false, false, r)) := rfl
  have hx2 := tx_cutSuffix (bs r) 42 W2 (by rw [bs_size]; omega)
  rw [bs_list] at hx2
  generalize Lib.hasSuffix r [33] = s33 at *
  generalize Lib.hasSuffix r [42] = s42 at *
  generalize Lib.trimSuffix r [33] = T33 at *
  generalize Lib.trimSuffix r [42] = T42 at *
  go_wp2_with fail
  refine hx.mono ?_
  clear hx
  rintro e w9 ⟨rfl, hw⟩
  have hw := hw.symm
  subst hw
  go_upto_if 25 with fail
  go_cut [5] (fun v wx => ∃ (m k : Bool) (R : List UInt8), v = .string (bs R) ∧ Hid (signB r = (m, k, R)) ∧ Hid (wx.heap[q]? = some (.cells #[.string (bs a), .int .i64 0, .bool m, .bool k] 61 (0, 0))) ∧ Hid (wx.heap[w.heap.size]? = some (.cells #[.string ⟨#[]⟩, .int .i64 0, .bool false, .bool false] 61 (0, 0))) ∧ Below w.heap.size w wx)
  case first =>
    have HBX := Lib.hid hbx
    have HBK := Lib.hid hbk2
    have HNE := Lib.hid hne
    have HQW := Lib.hid hqw
    clear hbx hbk2
    cases s33 with
    | true =>
      have HS : Hid (signB r = (true, false, T33)) := HSG.out
      clear HSG hx2
      go_wp2_with fail
      go_meet
      exact ⟨true, false, T33, rfl, HS, setCell_block HBX.out 2 (.bool true), setCell_other HBK.out HNE.out 2 (.bool true), hB2.setCell (p := ⟨q, 2, none⟩) HQW.out (.bool true)⟩
    | false =>
      cases s42 with
      | true =>
        have HS : Hid (signB r = (true, true, T42)) := HSG.out
        clear HSG
        go_wp2_with fail
        refine hx2.mono ?_
        clear hx2
        rintro e w8 ⟨rfl, hw⟩
        have hw := hw.symm
        subst hw
        go_wp2_with fail
        go_meet
        exact ⟨true, true, T42, rfl, HS, setCell_block (setCell_block HBX.out 2 (.bool true)) 3 (.bool true), setCell_other (setCell_other HBK.out HNE.out 2 (.bool true)) HNE.out 3 (.bool true), (hB2.setCell (p := ⟨q, 2, none⟩) HQW.out (.bool true)).setCell (p := ⟨q, 3, none⟩) HQW.out (.bool true)⟩
      | false =>
        have HS : Hid (signB r = (false, false, r)) := HSG.out
        clear HSG
        go_wp2_with fail
        refine hx2.mono ?_
        clear hx2
        rintro e w8 ⟨rfl, hw⟩
        have hw := hw.symm
        subst hw
        go_wp2_with fail
        go_meet
        exact ⟨false, false, r, rfl, HS, HBX, HBK, hB2⟩
  case rest =>
  obtain ⟨W5, hw5⟩ : ∃ x : World, x = wc := ⟨_, rfl⟩
  subst hw5
  obtain ⟨m, k, R, rfl, HS, HBX, HBK, hB5⟩ := hcut
  have HD5 : Hid (readFldL s.data.toList = if f = true ∧ wordB a = true ∧ 0 < typN R then some ⟨bs a, typN R, m, k⟩ else none) := by
    have h := HD2.out; rw [HS.out] at h; exact h
  have hbx5 := HBX.out
  have hbk5 := HBK.out
  clear HSG hx2 HS HBX HBK HD2 y0 y2 y3 g2 g3 hbx hbk2 hB2
  -- behind the sign: the world is W5; hbx5, hbk5, hB5; the rest is bs R; HD5
  have hx := ti_any (bs R) W5 (HY.out.below hB5)
  rw [bs_list] at hx
  have y1 := block_cell hbx5 1
  have g1 := block_free hbx5 1
  go_wp2_with fail
  refine hx.mono ?_
  clear hx
  rintro e w9 ⟨rfl, hw⟩
  have hw := hw.symm
  subst hw
  have hbx6 : (W5.setCell ⟨q, 1, none⟩ (.int .i64 (typN R))).heap[q]? = some (.cells #[.string (bs a), .int .i64 (typN R), .bool m, .bool k] 61 (0, 0)) := setCell_block hbx5 1 (.int .i64 (typN R))
  have hbk6 := setCell_other hbk5 hne 1 (.int .i64 (typN R))
  have hB6 := hB5.setCell (p := ⟨q, 1, none⟩) hqw (.int .i64 (typN R))
  clear hbx5 hbk5 hB5
  go_upto_region 10 with fail
  generalize W5.setCell ⟨q, 1, none⟩ (.int .i64 (typN R)) = W6 at *
  clear y1 g1
  have z0 := block_cell hbx6 0
  have z1 := block_cell hbx6 1
  have z2 := block_cell hbx6 2
  have z3 := block_cell hbx6 3
  have r0 := block_cell hbk6 0
  have r1 := block_cell hbk6 1
  have r2 := block_cell hbk6 2
  have r3 := block_cell hbk6 3
  have f0 := block_free hbk6 0
  have f1 := block_free hbk6 1
  have f2 := block_free hbk6 2
  have f3 := block_free hbk6 3
  cases f with
  | false =>
    have HN : Hid (readFldL s.data.toList = none) := by unfold Hid; rw [HD5.out, if_neg (fun h => by cases h.1)]
    go_region
    obtain ⟨k1, k2⟩ := res4d (.string (bs a)) (.int .i64 (typN R)) (.bool m) (.bool k) hB6 hbk6
    have p0 := block_cell k2 0
    have p1 := block_cell k2 1
    have p2 := block_cell k2 2
    have p3 := block_cell k2 3
    clear z0 z1 z2 z3 r0 r1 r2 r3 f0 f1 f2 f3 hbx6 hbk6 hB6 HD5 k2
    go_wp2_with fail
    exact bodyPost_ret (v := .tuple #[.agg #[.string (bs a), .int .i64 (typN R), .bool m, .bool k], .bool false]) (by simp [results, Tryz.results59, go_sem, p0, p1, p2, p3]) rfl ⟨_, _, _, _, by rw [HN.out]; rfl, (fun f hf => by rw [HN.out] at hf; cases hf), k1⟩
  | true =>
    have hx := word_any (bs a) W6.drew (by unfold Sm; rw [bs_size]; omega)
    rw [bs_list] at hx
    cases hwd : wordB a with
    | true =>
      rw [hwd] at hx
      have HN : Hid (readFldL s.data.toList = if 0 < typN R then some ⟨bs a, typN R, m, k⟩ else none) := by unfold Hid; rw [HD5.out]; simp only [hwd, true_and]
      have HWN : Hid (a.length ≤ 1048576) := by unfold Hid; omega
      have hnq : q ≠ w.heap.size := fun h => hne h.symm
      clear HD5 hwd
      by_cases hty : 0 < typN R
      · have hgt : decide (0 < typN R) = true := decide_eq_true hty
        have HNN : Hid (readFldL s.data.toList = some ⟨bs a, typN R, m, k⟩) := by unfold Hid; rw [HN.out, if_pos hty]
        have HTY : Hid (I64 (typN R)) := typN_i64 _
        generalize hty9 : typN R = tn at *
        clear HN hty9
        go_region_held3 (fun w' => w'.cell? ⟨q, 0, none⟩ = some (.string (bs a)) ∧ w'.cell? ⟨q, 1, none⟩ = some (.int .i64 tn) ∧ w'.cell? ⟨q, 2, none⟩ = some (.bool m) ∧ w'.cell? ⟨q, 3, none⟩ = some (.bool k))
          (first
            | exact hkeep
            | go_keep)
          (first | (go_at_call 56; refine hx.mono ?_; clear hx; rintro e w10 ⟨rfl, hb10⟩; have hkeep := And.intro (cell_below hb10 z0) (And.intro (cell_below hb10 z1) (And.intro (cell_below hb10 z2) (cell_below hb10 z3))); have hbk7 := (hb10.block _ (Array.getElem?_eq_some_iff.1 hbk6).1).trans hbk6; have r0 := block_cell hbk7 0; have r1 := block_cell hbk7 1; have r2 := block_cell hbk7 2; have r3 := block_cell hbk7 3; have f0 := block_free hbk7 0; have f1 := block_free hbk7 1; have f2 := block_free hbk7 2; have f3 := block_free hbk7 3))
        all_goals
          obtain ⟨k1, k2⟩ := res4 (.string (bs a)) (.int .i64 tn) (.bool m) (.bool k) (hB6.drew.trans (hb10.mono hB6.size)) hbk7
          have p0 := block_cell k2 0
          have p1 := block_cell k2 1
          have p2 := block_cell k2 2
          have p3 := block_cell k2 3
          clear z0 z1 z2 z3 r0 r1 r2 r3 f0 f1 f2 f3 hbx6 hbk6 hB6 k2 hkeep hbk7
          go_wp2_with fail
          exact bodyPost_ret (v := .tuple #[.agg #[.string (bs a), .int .i64 tn, .bool m, .bool k], .bool true]) (by simp [results, Tryz.results59, go_sem, p0, p1, p2, p3]) rfl ⟨_, _, _, _, by rw [HNN.out]; rfl, (fun f hf => by rw [HNN.out] at hf; injection hf with hf; subst hf; exact ⟨rfl, rfl, rfl, rfl, by unfold Sm; rw [bs_size]; exact HWN.out, HTY.out⟩), k1⟩
      · have hgt : decide (0 < typN R) = false := decide_eq_false hty
        have HNN : Hid (readFldL s.data.toList = none) := by unfold Hid; rw [HN.out, if_neg hty]
        generalize hty9 : typN R = tn at *
        clear HN hty9
        go_region_held3 (fun w' => w'.cell? ⟨q, 0, none⟩ = some (.string (bs a)) ∧ w'.cell? ⟨q, 1, none⟩ = some (.int .i64 tn) ∧ w'.cell? ⟨q, 2, none⟩ = some (.bool m) ∧ w'.cell? ⟨q, 3, none⟩ = some (.bool k))
          (first
            | exact hkeep
            | go_keep)
          (first | (go_at_call 56; refine hx.mono ?_; clear hx; rintro e w10 ⟨rfl, hb10⟩; have hkeep := And.intro (cell_below hb10 z0) (And.intro (cell_below hb10 z1) (And.intro (cell_below hb10 z2) (cell_below hb10 z3))); have hbk7 := (hb10.block _ (Array.getElem?_eq_some_iff.1 hbk6).1).trans hbk6; have r0 := block_cell hbk7 0; have r1 := block_cell hbk7 1; have r2 := block_cell hbk7 2; have r3 := block_cell hbk7 3; have f0 := block_free hbk7 0; have f1 := block_free hbk7 1; have f2 := block_free hbk7 2; have f3 := block_free hbk7 3))
        all_goals
          obtain ⟨k1, k2⟩ := res4 (.string (bs a)) (.int .i64 tn) (.bool m) (.bool k) (hB6.drew.trans (hb10.mono hB6.size)) hbk7
          have p0 := block_cell k2 0
          have p1 := block_cell k2 1
          have p2 := block_cell k2 2
          have p3 := block_cell k2 3
          clear z0 z1 z2 z3 r0 r1 r2 r3 f0 f1 f2 f3 hbx6 hbk6 hB6 k2 hkeep hbk7
          go_wp2_with fail
          exact bodyPost_ret (v := .tuple #[.agg #[.string (bs a), .int .i64 tn, .bool m, .bool k], .bool false]) (by simp [results, Tryz.results59, go_sem, p0, p1, p2, p3]) rfl ⟨_, _, _, _, by rw [HNN.out]; rfl, (fun f hf => by rw [HNN.out] at hf; cases hf), k1⟩
    | false =>
      rw [hwd] at hx
      have HNN : Hid (readFldL s.data.toList = none) := by unfold Hid; rw [HD5.out, if_neg (fun h => by rw [hwd] at h; cases h.2.1)]
      have hnq : q ≠ w.heap.size := fun h => hne h.symm
      generalize hty9 : typN R = tn at *
      clear HD5 hwd hty9
      first | (go_region_law (first | (refine step_callxg (by simp [Region.wanted, yielded, go_sem]) 56 #[.string (bs a)] (by kernel_rfl) hx ?_; clear hx; rintro e w10 ⟨rfl, hb10⟩; refine ⟨_, rfl, ?_⟩; have z0 := cell_below hb10 z0; have z1 := cell_below hb10 z1; have z2 := cell_below hb10 z2; have z3 := cell_below hb10 z3; have hbk7 := (hb10.block _ (Array.getElem?_eq_some_iff.1 hbk6).1).trans hbk6; have r0 := block_cell hbk7 0; have r1 := block_cell hbk7 1; have r2 := block_cell hbk7 2; have r3 := block_cell hbk7 3; have f0 := block_free hbk7 0; have f1 := block_free hbk7 1; have f2 := block_free hbk7 2; have f3 := block_free hbk7 3))) | fail
      all_goals
        obtain ⟨k1, k2⟩ := res4 (.string (bs a)) (.int .i64 tn) (.bool m) (.bool k) (hB6.drew.trans (hb10.mono hB6.size)) hbk7
        have p0 := block_cell k2 0
        have p1 := block_cell k2 1
        have p2 := block_cell k2 2
        have p3 := block_cell k2 3
        clear z0 z1 z2 z3 r0 r1 r2 r3 f0 f1 f2 f3 hbx6 hbk6 hB6 k2 hbk7
        go_wp2_with fail
        exact bodyPost_ret (v := .tuple #[.agg #[.string (bs a), .int .i64 tn, .bool m, .bool k], .bool false]) (by simp [results, Tryz.results59, go_sem, p0, p1, p2, p3]) rfl ⟨_, _, _, _, by rw [HNN.out]; rfl, (fun f hf => by rw [HNN.out] at hf; cases hf), k1⟩
end Go.Proofs.YtfeccicogcnhcaaGreatDoor
