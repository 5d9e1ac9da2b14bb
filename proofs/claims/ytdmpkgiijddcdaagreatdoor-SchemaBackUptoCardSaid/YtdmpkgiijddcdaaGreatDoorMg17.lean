/- Parts: WdP, WdA, WdB, WdC, WdD, TypI. -/
import Derived.Test.YtdmpkgiijddcdaaGreatDoorMg14
import Derived.Lib.SpaceUEq
import Derived.Laws.RangeAny
import Derived.Test.YtdmpkgiijddcdaaGreatDoorMg08
import Derived.Lib.OthersKept
import Derived.Lib.RuneBytes
import Derived.WalkMore
import Derived.Stop.FmtQuoteTie
import Derived.Deep.DeepCutAuto
import Derived.Deep.LoopGhost
import Derived.Lib.IndexAny
import Derived.Shelf.Strings.IndexAnyAll
import Derived.Test.YtdmpkgiijddcdaaGreatDoorMg16
import Derived.Test.YtdmpkgiijddcdaaGreatDoorMg09
/- Plain: runes and bytes: what a scan by runes finds of two ASCII signs. No condition. -/
namespace Go.Proofs.YtdmpkgiijddcdaaGreatDoor
open Go Go.RowKit

theorem get_byte (s : ByteArray) (i : Nat) (h : i < s.size) : s.data.toList[i]? = some (s[i]'h) := Lib.data_getElem? s i h
/-- A rune at hand: one ASCII byte, or bytes that are none. -/
theorem rune_step (s : ByteArray) (pos : Nat) (h : pos < s.size) :
    ((s[pos]'h).toNat < 128 ∧ Utf8.decode s pos = ((s[pos]'h).toNat, 1)) ∨
    (128 ≤ (Utf8.decode s pos).1 ∧ 1 ≤ (Utf8.decode s pos).2 ∧ pos + (Utf8.decode s pos).2 ≤ s.size ∧ ∀ j, pos ≤ j → j < pos + (Utf8.decode s pos).2 → ∀ b, s.data.toList[j]? = some b → 128 ≤ b.toNat) := by
  by_cases ha : (s[pos]'h).toNat < 128
  · exact .inl ⟨ha, decode_ascii s pos h ha⟩
  · have hh := decode_high s pos h (by omega)
    have hN := Lib.decode_N s pos
    have hc := Lib.decodeN_conts (s.data.toList.length - pos) (s.data.toList.getD pos 0).toNat (s.data.toList.getD (pos + 1) 0).toNat (s.data.toList.getD (pos + 2) 0).toNat (s.data.toList.getD (pos + 3) 0).toNat
    rw [← hN] at hc
    obtain ⟨c2, c3, c4, c5⟩ := hc
    have hsz := Lib.size_eq s
    refine .inr ⟨hh.1, hh.2, by omega, fun j h1 h2 b hb => ?_⟩
    have hg : ∀ k, s.data.toList.getD k 0 = (s.data.toList[k]?).getD 0 := fun k => by simp [List.getD]
    rcases (by omega : j = pos ∨ j = pos + 1 ∨ j = pos + 2 ∨ j = pos + 3) with rfl | rfl | rfl | rfl
    · rw [get_byte s j h] at hb
      injection hb with hb
      rw [← hb]; omega
    · have := (c2 (by omega)).1
      rw [hg, hb] at this
      simp only [Option.getD_some] at this
      omega
    · have := (c3 (by omega)).1
      rw [hg, hb] at this
      simp only [Option.getD_some] at this
      omega
    · have := (c4 (by omega)).1
      rw [hg, hb] at this
      simp only [Option.getD_some] at this
      omega
/-- Neither of the two signs, up to here. -/
def NoTwo (l : List UInt8) (k : Nat) : Prop := ∀ j, j < k → ∀ b, l[j]? = some b → b ≠ 44 ∧ b ≠ 58
theorem NoTwo.zero (l : List UInt8) : NoTwo l 0 := fun _ h => absurd h (by omega)
theorem NoTwo.more {s : ByteArray} {pos : Nat} (hn : NoTwo s.data.toList pos) (h : pos < s.size) (hr : (Utf8.decode s pos).1 ≠ 44 ∧ (Utf8.decode s pos).1 ≠ 58) : NoTwo s.data.toList (pos + (Utf8.decode s pos).2) := by
  intro j hj b hb
  by_cases hjp : j < pos
  · exact hn j hjp b hb
  · rcases rune_step s pos h with ⟨h1, h2⟩ | ⟨h1, h2, h3, h4⟩
    · rw [h2] at hj hr
      have hj2 : j = pos := by
        have : (((s[pos]'h).toNat, 1) : Nat × Nat).2 = 1 := rfl
        omega
      subst hj2
      rw [get_byte s j h] at hb
      injection hb with hb
      rw [← hb]
      exact ⟨fun e => hr.1 (by rw [e]; rfl), fun e => hr.2 (by rw [e]; rfl)⟩
    · have := h4 j (by omega) hj b hb
      exact ⟨fun e => by rw [e] at this; exact absurd this (by decide), fun e => by rw [e] at this; exact absurd this (by decide)⟩
theorem NoTwo.all {l : List UInt8} (h : NoTwo l l.length) : (l.any fun c => c == 44 || c == 58) = false := by
  rw [List.any_eq_false]
  intro b hb
  obtain ⟨j, hj⟩ := List.mem_iff_getElem?.1 hb
  have := h j (List.getElem?_eq_some_iff.1 hj).1 b hj
  simp [this.1, this.2]
theorem two_hit {s : ByteArray} {pos : Nat} (h : pos < s.size) (hr : (Utf8.decode s pos).1 = 44 ∨ (Utf8.decode s pos).1 = 58) : (s.data.toList.any fun c => c == 44 || c == 58) = true := by
  rcases rune_step s pos h with ⟨h1, h2⟩ | ⟨h1, _⟩
  · rw [h2] at hr
    have hr : (s[pos]'h).toNat = 44 ∨ (s[pos]'h).toNat = 58 := hr
    refine List.any_eq_true.2 ⟨s[pos]'h, List.mem_iff_getElem?.2 ⟨pos, get_byte s pos h⟩, ?_⟩
    rcases hr with e | e
    · rw [UInt8.toNat_inj.mp (show (s[pos]'h).toNat = (44 : UInt8).toNat from e)]; rfl
    · rw [UInt8.toNat_inj.mp (show (s[pos]'h).toNat = (58 : UInt8).toNat from e)]; rfl
  · omega

theorem enc_high (R : Nat) (h1 : 128 ≤ R) (h2 : R ≤ 1114111) (hv : R < 55296 ∨ 57343 < R) : ∃ c : UInt8, (2 < (Utf8.encode (R : Int)).size ∧ (Utf8.encode (R : Int)).size ≤ 4) ∨ ((Utf8.encode (R : Int)).size = 2 ∧ (Utf8.encode (R : Int)).data.toList[1]? = some c ∧ 128 ≤ c.toNat) := by
  have hsz := Lib.size_eq (Utf8.encode (R : Int))
  by_cases c2 : R < 2048
  · have e := Go.Extern.FmtText.enc2 R (by omega) c2
    refine ⟨UInt8.ofNat (128 + R % 64), .inr ⟨by rw [hsz, e]; rfl, by rw [e]; rfl, ?_⟩⟩
    rw [UInt8.toNat_ofNat']
    omega
  · refine ⟨0, .inl ?_⟩
    by_cases c3 : R < 65536
    · have e := Go.Extern.FmtText.enc3 R c2 c3 (by omega)
      rw [hsz, e]; exact ⟨by simp, by simp⟩
    · have e := Go.Extern.FmtText.enc4 R c3 h2
      rw [hsz, e]; exact ⟨by simp, by simp⟩
theorem vr_ok (R : Nat) (w : World) (h2 : R ≤ 1114111) (hv : R < 55296 ∨ 57343 < R) : Calls Tryz.prog 214 #[.int .i32 R] w fun e w' => e = .returned (.bool true) ∧ w' = w := by
  have b1 : (0 : Int) ≤ (R : Int) := by omega
  have b2 : (R : Int) ≤ 1114111 := by omega
  go_enter Tryz.func214, Tryz.ntmps214
  by_cases h : R < 55296
  · have b3 : (R : Int) < 55296 := by omega
    go_wp2
    go_ret
    exact ⟨rfl, rfl⟩
  · have b3 : ¬ (R : Int) < 55296 := by omega
    have b4 : (57343 : Int) < (R : Int) := by omega
    go_wp2
    go_ret
    exact ⟨rfl, rfl⟩
set_option maxRecDepth 100000 in
set_option maxHeartbeats 4000000 in
theorem ir_high (R : Nat) (w : World) (h1 : 128 ≤ R) (h2 : R ≤ 1114111) (hne : R ≠ 65533) :
    Calls Tryz.prog 200 #[.string ⟨#[44, 58]⟩, .int .i32 R] w fun e w' => e = .returned (.int .i64 (-1)) ∧ Below w.heap.size w w' := by
  have b1 : (0 : Int) ≤ (R : Int) := by omega
  have b2 : ¬ (R : Int) < 128 := by omega
  have b3 : ((R : Int) == 65533) = false := by simp; omega
  go_enter Tryz.func200, Tryz.ntmps200
  go_upto_region 43 with fail
  by_cases hv : R < 55296 ∨ 57343 < R
  case neg =>
    have b4 : ¬ (R : Int) < 55296 := by omega
    have b5 : ¬ (57343 : Int) < (R : Int) := by omega
    go_wp2
    go_ret
    exact ⟨rfl, Below.refl _ _⟩
  have hx := vr_ok R w h2 hv
  go_wp2_with (first
    | (go_at_call 214; refine hx.mono ?_; clear hx; rintro e w9 ⟨rfl, hw⟩; subst hw)
    | fail)
  have hcv : ∀ W : World, (convert 21 9 (.int .i32 (R : Int))).run Tryz.prog W = .ok (.string (Utf8.encode (R : Int))) W := fun W => by
    have hs : Tryz.prog.underlying 21 = some (.int .i32) := by kernel_rfl
    have hd : Tryz.prog.underlying 9 = some .string := by kernel_rfl
    simp [convert, run_underlying hs, run_underlying hd, Conv.intToString]
  obtain ⟨c, hE⟩ := enc_high R h1 h2 hv
  generalize Utf8.encode (R : Int) = E at *
  refine wp_scope_straight ?_
  rcases hE with ⟨hE, hE4⟩ | ⟨hE, hE1, hE2⟩
  · obtain ⟨m, hm⟩ : ∃ m : Nat, E.size = m + 1 := ⟨E.size - 1, by omega⟩
    have hs1 : (E.size : Int) - 1 = (m : Int) := by omega
    have b6 : ¬ ((m : Int) < 2) := by omega
    have b7 : (m : Int) ≤ 4 := by omega
    clear hE hE4
    go_upto_region 5 with fail
    go_loop [9] (fun i => i = .int .i64 (m : Int)) (fun _ => 0)
    case atStart => rfl
    case round =>
      obtain rfl := hrel
      go_wp2
      go_ret
      exact ⟨rfl, Below.refl _ _⟩
  · have hEi : E[1]'(by omega) = c := by
      have h := Lib.data_getElem? E 1 (by omega)
      rw [hE1] at h
      exact (Option.some.inj h).symm
    have hsz : (E.size : Int) = 2 := by omega
    have hc : (((((⟨#[44, 58]⟩ : ByteArray)[1]'(by decide)).toNat : Int)) != (c.toNat : Int)) = true := by
      have h58 : (((⟨#[44, 58]⟩ : ByteArray)[1]'(by decide)).toNat) = 58 := rfl
      rw [h58]; simp; omega
    have hx : ∀ t wx, Calls Tryz.prog 104 #[.string t, .int .u8 (c.toNat : Int)] wx fun e w' => e = .returned (.int .i64 (Lib.indexByte t.data.toList c)) ∧ w' = wx := fun t wx => (tx_idxByte t (c.toNat : Int) wx).mono fun e w' ⟨h1, h2⟩ => ⟨by rw [h1]; simp, h2.symm⟩
    have HX := Lib.hid hx
    have hw2 : IntKind.i64.wrap 2 = 2 := by decide
    clear hx
    clear hE1
    go_upto_region 5 with fail
    go_loop [9] (fun i => i = .int .i64 1) (fun _ => 0)
    case atStart => rfl
    case round =>
      obtain rfl := hrel
      go_upto_region 6 with fail
      refine wp_scope_straight ?_
      go_wp2_with fail
      go_quiet (fail)
      go_wp2_with fail
      have hq := below_drewN (Below.refl w9.heap.size w9) nq
      generalize w9.drewN nq = w10 at *
      go_quiet ((go_at_call 104; exact Calls.quiet_of_same (HX.out _ _)))
      have hmin : Lib.indexByte (ByteArray.empty).data.toList c = -1 := rfl
      have hq2 := below_drewN hq nq
      go_wp2
      simp (config := { zetaDelta := true }) only [Exit.noGoto, Exit.inBlock, Exit.then, ↓reduceIte]
      go_ret
      exact ⟨rfl, hq2⟩

theorem two_idx (c : UInt8) : (0 ≤ Lib.indexByte [44, 58] c) ↔ (c.toNat = 44 ∨ c.toNat = 58) := by
  have h := Lib.contains_iff_indexByte [44, 58] c
  have e : (([44, 58] : List UInt8).contains c = true) ↔ (c.toNat = 44 ∨ c.toNat = 58) := by
    rw [List.contains_iff_mem]
    simp only [List.mem_cons, List.not_mem_nil, or_false]
    constructor
    · rintro (rfl | rfl) <;> decide
    · rintro (h | h)
      · exact .inl (UInt8.toNat_inj.mp h)
      · exact .inr (UInt8.toNat_inj.mp h)
  rw [← e, h]
  simp
set_option maxRecDepth 100000 in
set_option maxHeartbeats 4000000 in
theorem ir_low (R : Nat) (w : World) (h1 : R < 128) :
    Calls Tryz.prog 200 #[.string ⟨#[44, 58]⟩, .int .i32 R] w fun e w' => ∃ k : Int, e = .returned (.int .i64 k) ∧ ((0 ≤ k) ↔ (R = 44 ∨ R = 58)) ∧ Below w.heap.size w w' := by
  have b1 : (0 : Int) ≤ (R : Int) := by omega
  have b2 : (R : Int) < 128 := by omega
  have hx := tx_idxByte ⟨#[44, 58]⟩ (R : Int) w
  have HE : Hid ((0 ≤ Lib.indexByte ([44, 58] : List UInt8) ((R : Int).toNat.toUInt8)) ↔ (R = 44 ∨ R = 58)) := by
    unfold Hid
    rw [two_idx]
    have e : ((R : Int).toNat.toUInt8).toNat = R := by
      show (UInt8.ofNat R).toNat = R
      rw [UInt8.toNat_ofNat']; omega
    rw [e]
  go_enter Tryz.func200, Tryz.ntmps200
  go_wp2_with (first
    | (go_at_call 104; refine hx.mono ?_; clear hx; rintro e w9 ⟨rfl, hw⟩; subst hw)
    | fail)
  go_ret
  exact ⟨_, rfl, HE.out, Below.refl _ _⟩
set_option maxRecDepth 100000 in
set_option maxHeartbeats 4000000 in
theorem ir_bad (w : World) :
    Calls Tryz.prog 200 #[.string ⟨#[44, 58]⟩, .int .i32 65533] w fun e w' => e = .returned (.int .i64 (-1)) ∧ Below w.heap.size w w' := by
  have d0 : Utf8.decode (⟨#[44, 58]⟩ : ByteArray) 0 = (44, 1) := by decide +kernel
  have d1 : Utf8.decode (⟨#[44, 58]⟩ : ByteArray) 1 = (58, 1) := by decide +kernel
  go_enter Tryz.func200, Tryz.ntmps200
  go_upto_region 37 with fail
  go_upto_region 38 with fail
  go_loopg [] 2 (fun gf wx => ∃ pos : Nat, wx.heap[w.heap.size]? = some (.stringIter ⟨#[44, 58]⟩ pos) ∧ Below w.heap.size w wx ∧ pos + gf = 2)
  case atStart => exact ⟨0, World.iter_heap w _ 0, (Below.refl _ w).alloc (Nat.le_refl _) _, rfl⟩
  case round =>
    obtain ⟨pos, hit, hbw, hfu⟩ := hrel
    by_cases hps : pos < 2
    · obtain ⟨g', rfl⟩ : ∃ g', gk = g' + 1 := ⟨gk - 1, by omega⟩
      obtain ⟨r, hd, hr⟩ : ∃ r : Nat, Utf8.decode (⟨#[44, 58]⟩ : ByteArray) pos = (r, 1) ∧ ((r : Int) == 65533) = false := by
        rcases (by omega : pos = 0 ∨ pos = 1) with rfl | rfl
        · exact ⟨44, d0, by decide⟩
        · exact ⟨58, d1, by decide⟩
      have hnx : ∀ ty, (Instr.next (.pointer (some ⟨w.heap.size, 0, none⟩)) true ty).run Tryz.prog wr = _ := fun ty => Lib.run_next_any_at wr w.heap.size ⟨#[44, 58]⟩ pos ty hit hps
      rw [hd] at hnx
      have hit2 := Lib.iterAt_heap wr w.heap.size ⟨#[44, 58]⟩ pos (pos + 1) hit
      have hbw2 := Lib.below_iterAt hbw (k := w.heap.size) (Nat.le_refl _) ⟨#[44, 58]⟩ (pos + 1)
      obtain ⟨W, hWd⟩ : ∃ W, wr.iterAt w.heap.size ⟨#[44, 58]⟩ (pos + 1) = W := ⟨_, rfl⟩
      rw [hWd] at hnx hit2 hbw2
      clear hd d0 d1
      go_wp2
      go_roundg g'
      case measure => omega
      case rel => exact ⟨pos + 1, hit2, hbw2, by omega⟩
    · have hnx : ∀ ty, (Instr.next (.pointer (some ⟨w.heap.size, 0, none⟩)) true ty).run Tryz.prog wr = _ := fun ty => Lib.run_next_end_at wr w.heap.size ⟨#[44, 58]⟩ pos ty hit hps
      clear d0 d1
      go_wp2
      go_ret
      exact ⟨rfl, hbw⟩
theorem ir_any (R : Nat) (w : World) (h2 : R ≤ 1114111) :
    Calls Tryz.prog 200 #[.string ⟨#[44, 58]⟩, .int .i32 R] w fun e w' => ∃ k : Int, e = .returned (.int .i64 k) ∧ ((0 ≤ k) ↔ (R = 44 ∨ R = 58)) ∧ Below w.heap.size w w' := by
  by_cases h1 : R < 128
  · exact ir_low R w h1
  · by_cases hne : R = 65533
    · subst hne
      exact (ir_bad w).mono fun e w' ⟨he, hb⟩ => ⟨_, he, by omega, hb⟩
    · exact (ir_high R w (by omega) h2 hne).mono fun e w' ⟨he, hb⟩ => ⟨_, he, by omega, hb⟩

def twoIn (l : List UInt8) : Bool := l.any fun c => c == 44 || c == 58
theorem sua_no (n : Int) (w : World) (h : n ≤ 8) : Calls Tryz.prog 201 #[.int .i64 n] w fun e w' => e = .returned (.bool false) ∧ w' = w := by
  have h1 : ¬ (8 : Int) < n := by omega
  go_enter Tryz.func201, Tryz.ntmps201
  go_wp2
  go_ret
  exact ⟨by simp, rfl⟩
set_option maxRecDepth 100000 in
set_option maxHeartbeats 4000000 in
theorem ia_short (s : ByteArray) (w : World) (h8 : s.size ≤ 8) :
    Calls Tryz.prog 177 #[.string s, .string ⟨#[44, 58]⟩] w fun e w' => ∃ k : Int, e = .returned (.int .i64 k) ∧ ((0 ≤ k) ↔ twoIn s.data.toList = true) ∧ Below w.heap.size w w' := by
  have hx := sua_no (s.size : Int) w (by omega)
  have HIR := Lib.hid (fun R W h => ir_any R W h)
  go_enter Tryz.func177, Tryz.ntmps177
  go_upto_region 18 with (go_at_call 201; refine hx.mono ?_; clear hx; rintro e w9 ⟨rfl, hw⟩; have hw := hw.symm; subst hw)
  go_loopg [] s.size (fun gf wx => ∃ pos : Nat, wx.heap[w.heap.size]? = some (.stringIter s pos) ∧ Below w.heap.size w wx ∧ Hid (NoTwo s.data.toList pos) ∧ s.size ≤ pos + gf)
  case atStart => exact ⟨0, World.iter_heap w _ 0, (Below.refl _ w).alloc (Nat.le_refl _) _, NoTwo.zero _, by omega⟩
  case round =>
    obtain ⟨pos, hit, hbw, HN, hfu⟩ := hrel
    by_cases hps : pos < s.size
    · obtain ⟨g', rfl⟩ : ∃ g', gk = g' + 1 := ⟨gk - 1, by omega⟩
      have hnx : ∀ ty, (Instr.next (.pointer (some ⟨w.heap.size, 0, none⟩)) true ty).run Tryz.prog wr = _ := fun ty => Lib.run_next_any_at wr w.heap.size s pos ty hit hps
      have hwd := Lib.width_pos s pos
      have hrl := Lib.rune_le s pos
      have HMO : Hid ((Utf8.decode s pos).1 ≠ 44 ∧ (Utf8.decode s pos).1 ≠ 58 → NoTwo s.data.toList (pos + (Utf8.decode s pos).2)) := fun h => HN.out.more hps h
      have HHT : Hid ((Utf8.decode s pos).1 = 44 ∨ (Utf8.decode s pos).1 = 58 → twoIn s.data.toList = true) := fun h => two_hit hps h
      generalize (Utf8.decode s pos).1 = R at *
      generalize (Utf8.decode s pos).2 = K at *
      have hit2 := Lib.iterAt_heap wr w.heap.size s pos (pos + K) hit
      have hbw2 := Lib.below_iterAt hbw (k := w.heap.size) (Nat.le_refl _) s (pos + K)
      obtain ⟨W, hWd⟩ : ∃ W, wr.iterAt w.heap.size s (pos + K) = W := ⟨_, rfl⟩
      rw [hWd] at hnx hit2 hbw2
      have hx := HIR.out R W hrl
      clear HN hit hbw hWd
      by_cases hR : R = 44 ∨ R = 58
      · go_wp2_with (first
          | (go_at_call 200; refine hx.mono ?_; clear hx; rintro e W2 ⟨k, rfl, hk, hb2⟩; have hk0 : 0 ≤ k := hk.2 hR)
          | fail)
        go_ret
        exact ⟨_, rfl, ⟨fun _ => HHT.out hR, fun _ => by omega⟩, hbw2.trans (hb2.mono hbw2.size)⟩
      · go_wp2_with (first
          | (go_at_call 200; refine hx.mono ?_; clear hx; rintro e W2 ⟨k, rfl, hk, hb2⟩; have hk0 : ¬ 0 ≤ k := fun h => hR (hk.1 h))
          | fail)
        go_roundg g'
        case measure => omega
        case rel => exact ⟨pos + K, (hb2.block _ (Array.getElem?_eq_some_iff.1 hit2).1).trans hit2, hbw2.trans (hb2.mono hbw2.size), HMO.out ⟨fun h => hR (.inl h), fun h => hR (.inr h)⟩, by omega⟩
    · have hnx : ∀ ty, (Instr.next (.pointer (some ⟨w.heap.size, 0, none⟩)) true ty).run Tryz.prog wr = _ := fun ty => Lib.run_next_end_at wr w.heap.size s pos ty hit hps
      have hF : twoIn s.data.toList = false := NoTwo.all fun j hj b hb => HN.out j (by have := Lib.size_eq s; omega) b hb
      have HF := Lib.hid hF
      clear hF
      go_wp2
      go_ret
      exact ⟨_, rfl, by rw [HF.out]; simp, hbw⟩

-- written by shelflay.py for the seat YtdmpkgiijddcdaaGreatDoor
def anyLay_ren : Go.Shelf.Ren := ⟨fun | 153 => 177 | 152 => 200 | 226 => 201 | 227 => 202 | 228 => 203 | 137 => 104 | 119 => 214 | 224 => 193 | 225 => 192 | 217 => 142 | 266 => 174 | n => n, fun | 9 => 9 | 3 => 3 | 4 => 4 | 5 => 5 | 21 => 21 | 117 => 274 | 116 => 273 | 0 => 0 | 46 => 228 | 124 => 293 | 20 => 20 | n => n, fun | n => n⟩
theorem anyLay : Go.Proofs.Lays.n153 Tryz.prog anyLay_ren := {
  mixed := by kernel_rfl,
  f119 := Tryz.func214.trans (congrArg some (by kernel_rfl)),
  f137 := Tryz.func104.trans (congrArg some (by kernel_rfl)),
  f152 := Tryz.func200.trans (congrArg some (by kernel_rfl)),
  f153 := Tryz.func177.trans (congrArg some (by kernel_rfl)),
  f217 := Tryz.func142.trans (congrArg some (by kernel_rfl)),
  f224 := Tryz.func193.trans (congrArg some (by kernel_rfl)),
  f225 := Tryz.func192.trans (congrArg some (by kernel_rfl)),
  f226 := Tryz.func201.trans (congrArg some (by kernel_rfl)),
  f227 := Tryz.func202.trans (congrArg some (by kernel_rfl)),
  f228 := Tryz.func203.trans (congrArg some (by kernel_rfl)),
  f266 := Tryz.func174.trans (congrArg some (by kernel_rfl)),
  t0 := Tryz.underlying0,
  a0 := Tryz.isAgg0,
  z0 := Tryz.sizeOf0,
  v0 := Tryz.zeroValue0,
  t3 := Tryz.underlying3,
  a3 := Tryz.isAgg3,
  z3 := Tryz.sizeOf3,
  v3 := Tryz.zeroValue3,
  t4 := Tryz.underlying4,
  a4 := Tryz.isAgg4,
  z4 := Tryz.sizeOf4,
  v4 := Tryz.zeroValue4,
  t5 := Tryz.underlying5,
  a5 := Tryz.isAgg5,
  z5 := Tryz.sizeOf5,
  v5 := Tryz.zeroValue5,
  t9 := Tryz.underlying9,
  a9 := Tryz.isAgg9,
  z9 := Tryz.sizeOf9,
  v9 := Tryz.zeroValue9,
  t21 := Tryz.underlying21,
  a21 := Tryz.isAgg21,
  z21 := Tryz.sizeOf21,
  v21 := Tryz.zeroValue21,
  t46 := Tryz.underlying228,
  a46 := Tryz.isAgg228,
  z46 := Tryz.sizeOf228,
  v46 := Tryz.zeroValue228,
  t116 := Tryz.underlying273,
  a116 := Tryz.isAgg273,
  z116 := Tryz.sizeOf273,
  t117 := Tryz.underlying274,
  a117 := Tryz.isAgg274,
  z117 := Tryz.sizeOf274,
  v117 := Tryz.zeroValue274,
  t124 := Tryz.underlying293,
  a124 := Tryz.isAgg293,
  z124 := Tryz.sizeOf293,
  v124 := Tryz.zeroValue293 }

theorem two_any : ∀ l : List UInt8, (0 ≤ Lib.indexAny l [44, 58]) ↔ twoIn l = true
  | [] => by simp [Lib.indexAny, twoIn]
  | b :: l => by
    have ih := two_any l
    have hge := Lib.indexAny_ge [44, 58] l
    have hc : (([44, 58] : List UInt8).contains b) = (b == 44 || b == 58) := by
      rw [Bool.eq_iff_iff, List.contains_iff_mem]; simp
    have hu : twoIn (b :: l) = ((b == 44 || b == 58) || twoIn l) := rfl
    have hi : Lib.indexAny (b :: l) [44, 58] = if (([44, 58] : List UInt8).contains b) = true then 0 else if (Lib.indexAny l [44, 58] == -1) = true then -1 else Lib.indexAny l [44, 58] + 1 := rfl
    rw [hu, hi, hc]
    cases hb : (b == 44 || b == 58) with
    | true => simp
    | false =>
      rw [if_neg (by simp), Bool.false_or, ← ih]
      by_cases h1 : Lib.indexAny l [44, 58] = -1
      · rw [h1]; simp
      · rw [if_neg (by simpa using h1)]; omega
theorem any_info : (Tryz.prog.info? (anyLay_ren.t 116)).map (fun i => (i.zero, i.size)) = some (some (.agg (Array.replicate 256 (.bool false))), 256) := by kernel_rfl
theorem ia_long (s : ByteArray) (w : World) (h8 : 8 < s.size) (hs : Sm s) :
    Calls Tryz.prog 177 #[.string s, .string ⟨#[44, 58]⟩] w fun e w' => ∃ k : Int, e = .returned (.int .i64 k) ∧ ((0 ≤ k) ↔ twoIn s.data.toList = true) ∧ Below w.heap.size w w' :=
  (Any.strings_IndexAny_long anyLay (zero_of_info any_info).1 (zero_of_info any_info).2 s ⟨#[44, 58]⟩ w (by decide) h8 (by unfold Sm at hs; omega) (by decide) (fun j b hb => by
    have : b ∈ ([44, 58] : List UInt8) := List.mem_of_getElem? hb
    simp at this
    rcases this with rfl | rfl <;> decide)).mono fun e w' ⟨he, hw⟩ => ⟨_, he, two_any _, by
      rw [hw]
      exact ((Below.refl _ _).alloc (Nat.le_refl _) _).alloc (by simp) _⟩
theorem ia_any (s : ByteArray) (w : World) (hs : Sm s) :
    Calls Tryz.prog 177 #[.string s, .string ⟨#[44, 58]⟩] w fun e w' => ∃ k : Int, e = .returned (.int .i64 k) ∧ ((0 ≤ k) ↔ twoIn s.data.toList = true) ∧ Below w.heap.size w w' := by
  by_cases h8 : s.size ≤ 8
  · exact ia_short s w h8
  · exact ia_long s w (by omega) hs
theorem ca_any (s : ByteArray) (w : World) (hs : Sm s) :
    Calls Tryz.prog 147 #[.string s, .string ⟨#[44, 58]⟩] w fun e w' => e = .returned (.bool (twoIn s.data.toList)) ∧ Below w.heap.size w w' := by
  have hx := ia_any s w hs
  generalize twoIn s.data.toList = T at *
  go_enter Tryz.func147, Tryz.ntmps147
  go_wp2_with (first
    | (go_at_call 177; refine hx.mono ?_; clear hx; rintro e w9 ⟨k, rfl, hk, hb⟩)
    | fail)
  go_ret
  exact ⟨by cases T <;> simp, hb⟩
theorem word_any (s : ByteArray) (w : World) (hs : Sm s) :
    Calls Tryz.prog 107 #[.string s] w fun e w' => e = .returned (.bool (wordB s.data.toList)) ∧ Below w.heap.size w w' := by
  have hx := ca_any s w hs
  by_cases h0 : s = .empty
  · have he : s.toList = [] := by rw [h0]; exact empty_list
    have heb : s.toList.isEmpty = true := by rw [he]; rfl
    have HW : Hid (wordB s.data.toList = false) := by unfold Hid; rw [h0]; rfl
    clear hx h0
    go_enter Tryz.func107, Tryz.ntmps107
    go_wp2
    go_ret
    rw [HW.out]
    exact ⟨rfl, Below.refl _ _⟩
  · have he : ¬ s.toList = [] := fun h => h0 (by rw [← bytes_eq, h, empty_list])
    have heb : s.toList.isEmpty = false := List.isEmpty_eq_false_iff.2 he
    have HW : Hid (wordB s.data.toList = !twoIn s.data.toList) := by
      unfold Hid wordB twoIn
      have : s.data.toList.isEmpty = false := by
        rw [List.isEmpty_eq_false_iff]
        intro h
        apply h0
        rw [← bs_of s, h]; rfl
      rw [this]; rfl
    clear h0
    go_enter Tryz.func107, Tryz.ntmps107
    go_wp2_with (first
      | (go_at_call 147; refine hx.mono ?_; clear hx; rintro e w9 ⟨rfl, hb⟩)
      | fail)
    go_ret
    rw [HW.out]
    exact ⟨by simp, hb⟩

def Typ4 (w : World) : Prop := TypOk w ∧ w.cell? ⟨0, 0, none⟩ = some (.string (bs (typL 0)))
theorem Typ4.below {w w' : World} (h : Typ4 w) (hb : Below w.heap.size w w') : Typ4 w' := ⟨h.1.below hb, cell_below hb h.2⟩
theorem typ_cell {w : World} (h : Typ4 w) {k : Nat} (hk : k < 4) : w.cell? ⟨0, k, none⟩ = some (.string (bs (typL (k : Int)))) := by
  obtain ⟨⟨h1, h2, h3⟩, h0⟩ := h
  rcases (by omega : k = 0 ∨ k = 1 ∨ k = 2 ∨ k = 3) with rfl | rfl | rfl | rfl
  · exact h0
  · exact h1
  · exact h2
  · exact h3
theorem typN_at {l : List UInt8} {k : Nat} (hk : k < 4) (h : l = typL (k : Int)) : typN l = (k : Int) := by
  subst h
  rcases (by omega : k = 0 ∨ k = 1 ∨ k = 2 ∨ k = 3) with rfl | rfl | rfl | rfl <;> decide
theorem typN_none {l : List UInt8} (h : ∀ k : Nat, k < 4 → l ≠ typL (k : Int)) : typN l = -1 := by
  unfold typN
  rw [if_neg (show ¬ l = [] from h 0 (by omega)), if_neg (show ¬ l = [105, 110, 116] from h 1 (by omega)), if_neg (show ¬ l = [98, 111, 111, 108] from h 2 (by omega)), if_neg (show ¬ l = [116, 101, 120, 116] from h 3 (by omega))]
set_option maxHeartbeats 1000000 in
theorem ti_any (s : ByteArray) (w : World) (hT : Typ4 w) :
    Calls Tryz.prog 149 #[.slice (some ⟨0, 0, none⟩) 4 4, .string s] w fun e w' => e = .returned (.int .i64 (typN s.data.toList)) ∧ w' = w := by
  have HT := Lib.hid hT
  clear hT
  go_enter Tryz.func149, Tryz.ntmps149
  go_wp2
  go_loop [8] (fun i => ∃ k : Nat, k ≤ 4 ∧ i = .int .i64 k ∧ Hid (∀ j : Nat, j < k → s.data.toList ≠ typL (j : Int))) (fun i => 4 - (intOf i).toNat)
  case atStart => exact ⟨0, by omega, rfl, fun j hj => absurd hj (by omega)⟩
  case round =>
    obtain ⟨k, hk, rfl, HN⟩ := hrel
    by_cases hlt : k < 4
    · have hlt' : (k : Int) < 4 := by omega
      have y := typ_cell HT.out hlt
      have HAT := Lib.hid (fun h => typN_at (l := s.data.toList) hlt h)
      have hq := bs_lit (K := s.data.toList) (L := typL (k : Int)) rfl
      rw [bs_of] at hq
      by_cases he : s.data.toList = typL (k : Int)
      · have b1 : (s.toList == (bs (typL (k : Int))).toList) = true := by rw [beq_iff_eq, hq]; exact he
        have b2 : s.toList = (bs (typL (k : Int))).toList := by rw [hq]; exact he
        have HR := Lib.hid (HAT.out he)
        generalize bs (typL (k : Int)) = T at *
        clear hq he HAT HN
        go_wp2
        go_ret
        exact ⟨by rw [HR.out]; rfl, rfl⟩
      · have b1 : (s.toList == (bs (typL (k : Int))).toList) = false := by rw [beq_eq_false_iff_ne, ne_eq, hq]; exact he
        have b2 : ¬ s.toList = (bs (typL (k : Int))).toList := by rw [hq]; exact he
        have HM : Hid (∀ j : Nat, j < k + 1 → s.data.toList ≠ typL (j : Int)) := fun j hj => by
          rcases (by omega : j < k ∨ j = k) with h | rfl
          · exact HN.out j h
          · exact he
        generalize bs (typL (k : Int)) = T at *
        clear hq he HAT HN
        go_wp2
        refine ⟨⟨k + 1, by omega, by go_num, HM⟩, by simp only [intOf]; omega⟩
    · obtain rfl : k = 4 := by omega
      have HR := Lib.hid (typN_none (l := s.data.toList) HN.out)
      clear HN
      go_wp2
      go_ret
      exact ⟨by rw [HR.out]; rfl, rfl⟩
end Go.Proofs.YtdmpkgiijddcdaaGreatDoor
