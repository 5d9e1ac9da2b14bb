/- Parts: Mask, RcC, KinK, KinL, SamA, RefA, ShA. -/
import Derived.Test.YtfeccicogcnhcaaGreatDoorMg01
import Derived.Deep.DeepCutAuto
import Derived.Deep.CutBlock
import Derived.Deep.Light
import Derived.Test.YtfeccicogcnhcaaGreatDoorMg09
import Derived.Test.YtfeccicogcnhcaaGreatDoorMg10
import Derived.Test.YtfeccicogcnhcaaGreatDoorMg06
import Derived.Test.YtfeccicogcnhcaaGreatDoorMg03
/- Plain: cuts and loops whose forgotten slots are held by ONE function and not by so many existentials. No condition. -/
namespace Go.Proofs.YtfeccicogcnhcaaGreatDoor
open Go Go.RowKit

/-- What a slot holds behind a cut: what it held (k), anything (y n), or the relation's argument (a, b, c, d). -/
inductive Mk where
  | k
  | y (n : Nat)
  | a
  | b
  | c
  | d
open Mk in
def spread (f : Nat → Value) (va vb vc vd : Value) : List Mk → List Value → List Value
  | [], _ => []
  | _ :: _, [] => []
  | .k :: m, v :: l => v :: spread f va vb vc vd m l
  | .y n :: m, _ :: l => f n :: spread f va vb vc vd m l
  | .a :: m, _ :: l => va :: spread f va vb vc vd m l
  | .b :: m, _ :: l => vb :: spread f va vb vc vd m l
  | .c :: m, _ :: l => vc :: spread f va vb vc vd m l
  | .d :: m, _ :: l => vd :: spread f va vb vc vd m l
/-- The kept slots of l, the others of r. -/
def blend : List Mk → List Value → List Value → List Value
  | [], _, _ => []
  | _ :: _, [], _ => []
  | .k :: m, v :: l, _ :: r => v :: blend m l r
  | .k :: m, v :: l, [] => v :: blend m l []
  | _ :: m, _ :: l, v :: r => v :: blend m l r
  | _ :: m, _ :: l, [] => undef :: blend m l []
/-- The numbers are the places. -/
def placed (s0 s1 s2 s3 : Nat) : Nat → List Mk → Bool
  | _, [] => true
  | i, .k :: m => placed s0 s1 s2 s3 (i + 1) m
  | i, .y n :: m => (n == i) && placed s0 s1 s2 s3 (i + 1) m
  | i, .a :: m => (s0 == i) && placed s0 s1 s2 s3 (i + 1) m
  | i, .b :: m => (s1 == i) && placed s0 s1 s2 s3 (i + 1) m
  | i, .c :: m => (s2 == i) && placed s0 s1 s2 s3 (i + 1) m
  | i, .d :: m => (s3 == i) && placed s0 s1 s2 s3 (i + 1) m
theorem blend_spread (g : Nat → Value) (s0 s1 s2 s3 : Nat) : ∀ (m : List Mk) (l r : List Value) (i : Nat), placed s0 s1 s2 s3 i m = true → (∀ k, r.getD k undef = g (i + k)) → blend m l r = spread g (g s0) (g s1) (g s2) (g s3) m l
  | [], l, r, i, _, _ => by cases l <;> rfl
  | x :: m, [], r, i, _, _ => by cases x <;> rfl
  | x :: m, v :: l, [], i, hp, hg => by
    have hg' : ∀ k, ([] : List Value).getD k undef = g (i + 1 + k) := fun k => by rw [show i + 1 + k = i + (k + 1) by omega, ← hg]; rfl
    have h0 : g i = undef := by have := hg 0; rw [Nat.add_zero] at this; rw [← this]; rfl
    cases x with
    | k => show v :: _ = v :: _; rw [blend_spread g s0 s1 s2 s3 m l [] (i + 1) hp hg']
    | y n =>
      have hp' : (n == i) = true ∧ placed s0 s1 s2 s3 (i + 1) m = true := by simpa [placed] using hp
      show undef :: _ = g n :: _
      rw [blend_spread g s0 s1 s2 s3 m l [] (i + 1) hp'.2 hg', eq_of_beq hp'.1, h0]
    | a =>
      have hp' : (s0 == i) = true ∧ placed s0 s1 s2 s3 (i + 1) m = true := by simpa [placed] using hp
      show undef :: _ = g s0 :: _
      rw [blend_spread g s0 s1 s2 s3 m l [] (i + 1) hp'.2 hg', eq_of_beq hp'.1, h0]
    | b =>
      have hp' : (s1 == i) = true ∧ placed s0 s1 s2 s3 (i + 1) m = true := by simpa [placed] using hp
      show undef :: _ = g s1 :: _
      rw [blend_spread g s0 s1 s2 s3 m l [] (i + 1) hp'.2 hg', eq_of_beq hp'.1, h0]
    | c =>
      have hp' : (s2 == i) = true ∧ placed s0 s1 s2 s3 (i + 1) m = true := by simpa [placed] using hp
      show undef :: _ = g s2 :: _
      rw [blend_spread g s0 s1 s2 s3 m l [] (i + 1) hp'.2 hg', eq_of_beq hp'.1, h0]
    | d =>
      have hp' : (s3 == i) = true ∧ placed s0 s1 s2 s3 (i + 1) m = true := by simpa [placed] using hp
      show undef :: _ = g s3 :: _
      rw [blend_spread g s0 s1 s2 s3 m l [] (i + 1) hp'.2 hg', eq_of_beq hp'.1, h0]
  | x :: m, v :: l, u :: r, i, hp, hg => by
    have hg' : ∀ k, r.getD k undef = g (i + 1 + k) := fun k => by rw [show i + 1 + k = i + (k + 1) by omega, ← hg]; rfl
    have h0 : g i = u := by have := hg 0; rw [Nat.add_zero] at this; rw [← this]; rfl
    cases x with
    | k => show v :: _ = v :: _; rw [blend_spread g s0 s1 s2 s3 m l r (i + 1) hp hg']
    | y n =>
      have hp' : (n == i) = true ∧ placed s0 s1 s2 s3 (i + 1) m = true := by simpa [placed] using hp
      show u :: _ = g n :: _
      rw [blend_spread g s0 s1 s2 s3 m l r (i + 1) hp'.2 hg', eq_of_beq hp'.1, h0]
    | a =>
      have hp' : (s0 == i) = true ∧ placed s0 s1 s2 s3 (i + 1) m = true := by simpa [placed] using hp
      show u :: _ = g s0 :: _
      rw [blend_spread g s0 s1 s2 s3 m l r (i + 1) hp'.2 hg', eq_of_beq hp'.1, h0]
    | b =>
      have hp' : (s1 == i) = true ∧ placed s0 s1 s2 s3 (i + 1) m = true := by simpa [placed] using hp
      show u :: _ = g s1 :: _
      rw [blend_spread g s0 s1 s2 s3 m l r (i + 1) hp'.2 hg', eq_of_beq hp'.1, h0]
    | c =>
      have hp' : (s2 == i) = true ∧ placed s0 s1 s2 s3 (i + 1) m = true := by simpa [placed] using hp
      show u :: _ = g s2 :: _
      rw [blend_spread g s0 s1 s2 s3 m l r (i + 1) hp'.2 hg', eq_of_beq hp'.1, h0]
    | d =>
      have hp' : (s3 == i) = true ∧ placed s0 s1 s2 s3 (i + 1) m = true := by simpa [placed] using hp
      show u :: _ = g s3 :: _
      rw [blend_spread g s0 s1 s2 s3 m l r (i + 1) hp'.2 hg', eq_of_beq hp'.1, h0]
/-- What a slot holds. -/
def nth : List Value → Nat → Option Value
  | [], _ => some undef
  | v :: _, 0 => some v
  | _ :: l, n + 1 => nth l n
theorem nth_get : ∀ (l : List Value) (n : Nat), nth l n = some (l.getD n undef)
  | [], _ => rfl
  | _ :: _, 0 => rfl
  | _ :: l, n + 1 => nth_get l n
/-- A frame that is l but for what is forgotten; R: what the told slots and the world are. -/
def Forgot (m : List Mk) (l : List Value) (dl : List Deferred) (s0 s1 s2 s3 : Nat) (R : Value → Value → Value → Value → World → Prop) (a' : Act) (w' : World) : Prop :=
  ∃ (r : List Value) (v0 v1 v2 v3 : Value), a' = ⟨r.toArray, dl⟩ ∧ blend m l r = r ∧ nth r s0 = some v0 ∧ nth r s1 = some v1 ∧ nth r s2 = some v2 ∧ nth r s3 = some v3 ∧ R v0 v1 v2 v3 w'
theorem Forgot.at {m : List Mk} {l : List Value} {dl : List Deferred} {s0 s1 s2 s3 : Nat} {R : Value → Value → Value → Value → World → Prop} {a' : Act} {w' : World} (r : List Value) (v0 v1 v2 v3 : Value) (ha : a' = ⟨r.toArray, dl⟩) (hb : blend m l r = r) (h0 : nth r s0 = some v0) (h1 : nth r s1 = some v1) (h2 : nth r s2 = some v2) (h3 : nth r s3 = some v3) (rel : R v0 v1 v2 v3 w') : Forgot m l dl s0 s1 s2 s3 R a' w' := ⟨r, v0, v1, v2, v3, ha, hb, h0, h1, h2, h3, rel⟩
theorem Forgot.spread {m : List Mk} {l : List Value} {dl : List Deferred} {s0 s1 s2 s3 : Nat} {R : Value → Value → Value → Value → World → Prop} {a' : Act} {w' : World} (hp : placed s0 s1 s2 s3 0 m = true) (h : Forgot m l dl s0 s1 s2 s3 R a' w') : ∃ f v0 v1 v2 v3, R v0 v1 v2 v3 w' ∧ a' = ⟨(spread f v0 v1 v2 v3 m l).toArray, dl⟩ := by
  obtain ⟨r, v0, v1, v2, v3, rfl, hb, h0, h1, h2, h3, hR⟩ := h
  rw [nth_get] at h0 h1 h2 h3
  injection h0 with h0
  injection h1 with h1
  injection h2 with h2
  injection h3 with h3
  refine ⟨fun k => r.getD k undef, v0, v1, v2, v3, hR, ?_⟩
  have e := blend_spread (fun k => r.getD k undef) s0 s1 s2 s3 m l r 0 hp (fun k => by rw [Nat.zero_add])
  rw [h0, h1, h2, h3] at e
  rw [← e, hb]
theorem blend_self : ∀ (m : List Mk) (l : List Value), m.length = l.length → blend m l l = l
  | [], [], _ => rfl
  | x :: m, v :: l, h => by
    have := blend_self m l (by simpa using h)
    cases x <;> (show v :: _ = v :: _; rw [this])
theorem wp_cutm {P : Program} {s : Code} {K : Act → World → Prop} {Q' : Exit → Act → World → Prop} {l : List Value} {dl : List Deferred} {w : World} (m : List Mk) (s0 s1 s2 s3 : Nat) (hp : placed s0 s1 s2 s3 0 m = true) (R : Value → Value → Value → Value → World → Prop)
    (rest : ∀ (f : Nat → Value) v0 v1 v2 v3 w', R v0 v1 v2 v3 w' → K ⟨(spread f v0 v1 v2 v3 m l).toArray, dl⟩ w')
    (first : ∀ (J K' : Act → World → Prop), (∀ a' w', Forgot m l dl s0 s1 s2 s3 R a' w' → J a' w') → (∀ a' w', Met J a' w' → K' a' w') → s.wp P (Exit.then K' Q') ⟨l.toArray, dl⟩ w) : s.wp P (Exit.then K Q') ⟨l.toArray, dl⟩ w := by
  refine wp_cut (Forgot m l dl s0 s1 s2 s3 R) ?_ first
  intro a' w' h
  obtain ⟨f, v0, v1, v2, v3, hR, rfl⟩ := h.spread hp
  exact rest f v0 v1 v2 v3 w' hR
/-- A round has come to its end. -/
def Rounded (m : List Mk) (l : List Value) (dl : List Deferred) (s0 s1 s2 s3 : Nat) (R : Value → Value → Value → Value → World → Prop) (mu : Value → Value → Value → Value → World → Nat) (n : Nat) (a' : Act) (w' : World) : Prop :=
  Forgot m l dl s0 s1 s2 s3 (fun v0 v1 v2 v3 w => R v0 v1 v2 v3 w ∧ mu v0 v1 v2 v3 w < n) a' w'
theorem Rounded.at {m : List Mk} {l : List Value} {dl : List Deferred} {s0 s1 s2 s3 : Nat} {R : Value → Value → Value → Value → World → Prop} {mu : Value → Value → Value → Value → World → Nat} {n : Nat} {a' : Act} {w' : World} (r : List Value) (v0 v1 v2 v3 : Value) (ha : a' = ⟨r.toArray, dl⟩) (hb : blend m l r = r) (h0 : nth r s0 = some v0) (h1 : nth r s1 = some v1) (h2 : nth r s2 = some v2) (h3 : nth r s3 = some v3) (rel : R v0 v1 v2 v3 w') (measure : mu v0 v1 v2 v3 w' < n) : Rounded m l dl s0 s1 s2 s3 R mu n a' w' := ⟨r, v0, v1, v2, v3, ha, hb, h0, h1, h2, h3, rel, measure⟩
theorem wp_loopm {P : Program} {c : Code} {Q' : Exit → Act → World → Prop} {l : List Value} {dl : List Deferred} {w : World} (m : List Mk) (s0 s1 s2 s3 : Nat) (hp : placed s0 s1 s2 s3 0 m = true) (hl : m.length = l.length) (R : Value → Value → Value → Value → World → Prop) (mu : Value → Value → Value → Value → World → Nat)
    (v0 v1 v2 v3 : Value) (h0 : nth l s0 = some v0) (h1 : nth l s1 = some v1) (h2 : nth l s2 = some v2) (h3 : nth l s3 = some v3)
    (start : R v0 v1 v2 v3 w)
    (round : ∀ (f : Nat → Value) v0 v1 v2 v3 wr, R v0 v1 v2 v3 wr → c.wp P (Exit.then (Rounded m l dl s0 s1 s2 s3 R mu (mu v0 v1 v2 v3 wr)) Q') ⟨(spread f v0 v1 v2 v3 m l).toArray, dl⟩ wr) : (Code.loop c).wp P Q' ⟨l.toArray, dl⟩ w := by
  refine wp_loop (Forgot m l dl s0 s1 s2 s3 R) (fun a w => mu (a.tmps.getD s0 undef) (a.tmps.getD s1 undef) (a.tmps.getD s2 undef) (a.tmps.getD s3 undef) w) ⟨l, v0, v1, v2, v3, rfl, blend_self m l hl, h0, h1, h2, h3, start⟩ ?_
  have hg : ∀ (r : List Value) k, r.toArray.getD k undef = r.getD k undef := fun r k => by simp [Array.getD_eq_getD_getElem?]
  have hn : ∀ {r : List Value} {k : Nat} {v : Value}, nth r k = some v → r.getD k undef = v := fun {r k v} h => by rw [nth_get] at h; injection h
  rintro a' wr ⟨r, u0, u1, u2, u3, rfl, hb, e0, e1, e2, e3, hR⟩
  have e := blend_spread (fun k => r.getD k undef) s0 s1 s2 s3 m l r 0 hp (fun k => by rw [Nat.zero_add])
  have hr := round (fun k => r.getD k undef) u0 u1 u2 u3 wr hR
  rw [hn e0, hn e1, hn e2, hn e3, hb] at e
  rw [← e] at hr
  refine wp_mono hr ?_
  intro e a2 w2 hq
  cases e with
  | normal =>
    obtain ⟨r2, x0, x1, x2, x3, rfl, hb2, f0, f1, f2, f3, hR2, hlt⟩ := hq
    refine ⟨⟨r2, x0, x1, x2, x3, rfl, hb2, f0, f1, f2, f3, hR2⟩, ?_⟩
    show mu (r2.toArray.getD s0 undef) _ _ _ _ < mu (r.toArray.getD s0 undef) _ _ _ _
    rw [hg, hg, hg, hg, hg, hg, hg, hg, hn f0, hn f1, hn f2, hn f3, hn e0, hn e1, hn e2, hn e3]
    exact hlt
  | exit id => exact hq
  | goto l => exact hq
  | ret => exact hq
  | panic ch => exact hq
  | outgrown => exact hq

/-- Cut at each that is in no quotes, if these count. -/
def rcutG (c : UInt8) (qs : Bool) : Bool → List UInt8 → List UInt8 → List (List UInt8)
  | _, cur, [] => [cur]
  | q, cur, x :: l => if x = 39 then rcutG c qs (q != qs) (cur ++ [x]) l else if x = c ∧ q = false then cur :: rcutG c qs false [] l else rcutG c qs q (cur ++ [x]) l
theorem rcutG_cons (c : UInt8) (qs q : Bool) (cur : List UInt8) (x : UInt8) (l : List UInt8) : rcutG c qs q cur (x :: l) = if x = 39 then rcutG c qs (q != qs) (cur ++ [x]) l else if x = c ∧ q = false then cur :: rcutG c qs false [] l else rcutG c qs q (cur ++ [x]) l := rfl
def rcutL (c : UInt8) (qs : Bool) (l : List UInt8) : List (List UInt8) := rcutG c qs false [] l
theorem rcutG_plain {c : UInt8} (hc : c ≠ 39) : ∀ (n : Nat) (l : List UInt8), l.length ≤ n → ∀ cur : List UInt8, (∀ a r, Lib.split l [c] = a :: r → rcutG c false false cur l = (cur ++ a) :: r)
  | n, l, hn, cur => by
    have hno : ∀ (a : List UInt8) (cur : List UInt8) (t : List UInt8), noB c a → rcutG c false false cur (a ++ t) = rcutG c false false (cur ++ a) t := by
      intro a
      induction a with
      | nil => intro cur t _; simp
      | cons x a ih =>
        intro cur t h
        have h1 : x ≠ c := h x (by simp)
        show rcutG c false false cur (x :: (a ++ t)) = _
        rw [rcutG_cons]
        have h2 := ih (cur ++ [x]) t (fun y hy => h y (List.mem_cons_of_mem _ hy))
        by_cases h39 : x = 39
        · rw [if_pos h39]
          show rcutG c false false (cur ++ [x]) (a ++ t) = _
          rw [h2]; simp
        · rw [if_neg h39, if_neg (fun e => h1 e.1), h2]; simp
    intro a r hs
    rcases first_sign c l with h | ⟨b, t, rfl, h⟩
    · rw [split_no h] at hs
      injection hs with h1 h2
      subst h1; subst h2
      have := hno l cur [] h
      rw [List.append_nil] at this
      rw [this]; rfl
    · rw [split_sign h] at hs
      injection hs with h1 h2
      subst h1
      rw [hno b cur (c :: t) h, rcutG_cons, if_neg hc, if_pos ⟨rfl, rfl⟩]
      cases n with
      | zero => simp at hn
      | succ n =>
        cases hq : Lib.split t [c] with
        | nil => exact absurd hq (split_ne c t)
        | cons u v =>
          rw [rcutG_plain hc n t (by simp at hn; omega) [] u v hq, ← h2, hq]; rfl
theorem rcut_plain {c : UInt8} (hc : c ≠ 39) (l : List UInt8) : rcutL c false l = Lib.split l [c] := by
  cases hq : Lib.split l [c] with
  | nil => exact absurd hq (split_ne c l)
  | cons u v => exact (rcutG_plain hc l.length l (Nat.le_refl _) [] u v hq).trans (by simp)
set_option maxRecDepth 100000 in
set_option maxHeartbeats 8000000 in
theorem rcut_any (s : ByteArray) (c : UInt8) (hc39 : c ≠ 39) (qs : Bool) (w : World) (hs : Sm s) :
    Calls Tryz.prog 29 #[.string s, .int .u8 c.toNat, .bool qs] w fun e w' => ∃ A k, e = .returned (.slice A (rcutL c qs s.data.toList).length k) ∧ Own w' w.heap.size 9 1 (.slice A (rcutL c qs s.data.toList).length k) (rcutL c qs s.data.toList).length (wv (rcutL c qs s.data.toList)) ∧ Below w.heap.size w w' := by
  obtain ⟨i0, ei, ez, ez1, ez2⟩ := info_parts str_info
  have hle : s.data.toList.length = s.size := by rw [Array.length_toList]; rfl
  unfold Sm at hs
  have HLE := Lib.hid hle
  clear hle
  go_enter Tryz.func29, Tryz.ntmps29
  go_wp2_with fail
  go_loopw [7, 8, 9, 10] (fun x7 x8 x9 x10 wr => ∃ (k f : Nat) (done : List (List UInt8)) (q : Bool), k ≤ s.size ∧ f ≤ k ∧ done.length ≤ k ∧ x10 = .int .i64 k ∧ x8 = .int .i64 f ∧ x9 = .bool q ∧ Below w.heap.size w wr ∧ Hid (Own wr w.heap.size 9 1 x7 done.length (wv done)) ∧ Hid (done ++ rcutG c qs q ((s.data.toList.drop f).take (k - f)) (s.data.toList.drop k) = rcutL c qs s.data.toList)) (fun _ _ _ x10 _ => s.size - (intOf x10).toNat)
  case atStart => exact ⟨0, 0, [], false, Nat.zero_le _, Nat.le_refl _, Nat.le_refl _, rfl, rfl, rfl, Below.refl _ _, Own.nil _ _ _ _, rfl⟩
  case round =>
    obtain ⟨k, f, done, q, hk, hfk, hdk, rfl, rfl, rfl, hbr, HO, HX⟩ := hrel
    obtain ⟨wo, hwo⟩ : ∃ wo : World, wo = wr := ⟨_, rfl⟩
    subst hwo
    obtain ⟨A4, c4, rfl, hc4, _⟩ := HO.out.form
    by_cases hlt : k < s.size
    · have hlt' : (k : Int) < (s.size : Int) := by omega
      have hx : s.data.toList[k]? = some s[k] := by
        rw [List.getElem?_eq_getElem (by rw [HLE.out]; exact hlt)]; rfl
      have HX1 := Lib.hid (take_more hfk hx)
      have HX2 := Lib.hid (drop_one hx)
      have HST : Hid (done ++ rcutG c qs q ((s.data.toList.drop f).take (k - f)) (s[k] :: s.data.toList.drop (k + 1)) = rcutL c qs s.data.toList) := by
        unfold Hid; rw [← HX2.out]; exact HX.out
      generalize hsk : s[k] = x at *
      have HSK := Lib.hid hsk
      clear hx HX HX2
      by_cases h39 : x = 39
      · have hb39 : ((s[k].toNat : Int) == 39) = true := by rw [HSK.out, h39]; rfl
        have hbc : ((s[k].toNat : Int) == (c.toNat : Int)) = false := by
          rw [HSK.out, beq_eq_false_iff_ne]
          intro e
          exact hc39 (by rw [← h39]; exact UInt8.toNat_inj.1 (by omega))
        have HN : Hid (done ++ rcutG c qs (q != qs) ((s.data.toList.drop f).take (k + 1 - f)) (s.data.toList.drop (k + 1)) = rcutL c qs s.data.toList) := by
          unfold Hid; rw [HX1.out, ← HST.out, rcutG_cons, if_pos h39]
        clear h39 hsk HST HX1 hc39
        cases qs with
        | true =>
          have HN : Hid (done ++ rcutG c true (!q) ((s.data.toList.drop f).take (k + 1 - f)) (s.data.toList.drop (k + 1)) = rcutL c true s.data.toList) := by
            have h := HN.out; rw [show (q != true) = !q from by cases q <;> rfl] at h; exact h
          -- no cut here: (!q): in quotes behind it
          go_wp2_with fail
          go_roundw
          case rel => exact ⟨k + 1, f, done, (!q), by omega, by omega, by omega, by go_num, by go_num, rfl, hbr, HO, HN⟩
          case measure => simp [intOf]; omega
        | false =>
          have HN : Hid (done ++ rcutG c false q ((s.data.toList.drop f).take (k + 1 - f)) (s.data.toList.drop (k + 1)) = rcutL c false s.data.toList) := by
            have h := HN.out; rw [show (q != false) = q from by cases q <;> rfl] at h; exact h
          -- no cut here: q: in quotes behind it
          go_wp2_with fail
          go_roundw
          case rel => exact ⟨k + 1, f, done, q, by omega, by omega, by omega, by go_num, by go_num, rfl, hbr, HO, HN⟩
          case measure => simp [intOf]; omega
      · have hb39 : ((s[k].toNat : Int) == 39) = false := by
          rw [HSK.out, beq_eq_false_iff_ne]
          intro e
          exact h39 (UInt8.toNat_inj.1 (by show x.toNat = 39; omega))
        by_cases hc : x = c
        · have hbc : ((s[k].toNat : Int) == (c.toNat : Int)) = true := by rw [HSK.out, hc]; simp
          cases q with
          | true =>
            have HN : Hid (done ++ rcutG c qs true ((s.data.toList.drop f).take (k + 1 - f)) (s.data.toList.drop (k + 1)) = rcutL c qs s.data.toList) := by
              unfold Hid; rw [HX1.out, ← HST.out, rcutG_cons, if_neg h39, if_neg (fun e => by cases e.2)]
            clear h39 hsk HST HX1 hc hc39
            -- no cut here: true: in quotes behind it
            go_wp2_with fail
            go_roundw
            case rel => exact ⟨k + 1, f, done, true, by omega, by omega, by omega, by go_num, by go_num, rfl, hbr, HO, HN⟩
            case measure => simp [intOf]; omega
          | false =>
            have HN : Hid ((done ++ [(s.data.toList.drop f).take (k - f)]) ++ rcutG c qs false ((s.data.toList.drop (k + 1)).take (k + 1 - (k + 1))) (s.data.toList.drop (k + 1)) = rcutL c qs s.data.toList) := by
              unfold Hid; rw [← HST.out, rcutG_cons, if_neg h39, if_pos ⟨hc, rfl⟩]; simp
            clear h39 hsk HST HX1 hc hc39
            -- an append of s[f:k]: 35, 40: the temporaries; wo: the world; k: the piece's end, spelled
            have HOA : Hid (Own (wo.alloc (.cells #[.string (s.extract f k)] 9)) w.heap.size 9 1 (.slice A4 done.length c4) done.length (wv done)) := HO.out.alloc _
            have HN : Hid (∀ j u, ([.string (s.extract f k)] : List Value)[j]? = some u → (wo.alloc (.cells #[.string (s.extract f k)] 9)).cell? ⟨wo.heap.size, j, none⟩ = some u) := fun j u hj => by
              rw [World.cell?_alloc_at _ _ _ _ rfl]; simpa using hj
            have hA4 := hbr.alloc hbr.size (.cells #[.string (s.extract f k)] 9)
            clear hbr HO
            go_wp2_with (at_builtin; refine wpList_append_q _ rfl (.tmp 35) (.tmp 40) _ rfl w.heap.size 9 i0 (.string .empty) 1 16 Tryz.underlying45 ei ez ez1 ez2 rfl (by decide) (.slice A4 done.length c4) done.length (wv done) rfl HOA.out (some ⟨wo.heap.size, 0, none⟩) 1 1 [.string (s.extract f k)] rfl rfl (fun _ => ⟨_, rfl, fun j u hj => by rw [addr_add, Nat.zero_add]; exact HN.out j u hj⟩) (fun u hu => by simp at hu; subst hu; rfl) (by unfold maxLen; omega) (by omega) (by have := hA4.size; exact this) ?_; intro v9 w9 hown9 hg9 hat9)
            have hB9 : Below w.heap.size w w9 := hA4.grown hg9 hA4.size (fun kk e => (HOA.out.lt kk e).1)
            have HO9 : Hid (Own w9 w.heap.size 9 1 v9 (done.length + 1) (wv (done ++ [(s.data.toList.drop f).take (k - f)]))) := by
              unfold Hid wv
              rw [List.map_append]
              have h := hown9
              rw [ext_list] at h
              exact h
            clear hg9 hat9 hown9 HOA HN hA4
            go_wp2_with fail
            go_roundw
            case rel => exact ⟨k + 1, k + 1, done ++ [(s.data.toList.drop f).take (k - f)], false, by omega, by omega, by simp; omega, by go_num, by go_num, rfl, hB9, by rw [List.length_append]; exact HO9, HN⟩
            case measure => simp [intOf]; omega
        · have hbc : ((s[k].toNat : Int) == (c.toNat : Int)) = false := by
            rw [HSK.out, beq_eq_false_iff_ne]
            intro e
            exact hc (UInt8.toNat_inj.1 (by omega))
          have HN : Hid (done ++ rcutG c qs q ((s.data.toList.drop f).take (k + 1 - f)) (s.data.toList.drop (k + 1)) = rcutL c qs s.data.toList) := by
            unfold Hid; rw [HX1.out, ← HST.out, rcutG_cons, if_neg h39, if_neg (fun e => hc e.1)]
          clear h39 hsk HST HX1 hc hc39
          -- no cut here: q: in quotes behind it
          go_wp2_with fail
          go_roundw
          case rel => exact ⟨k + 1, f, done, q, by omega, by omega, by omega, by go_num, by go_num, rfl, hbr, HO, HN⟩
          case measure => simp [intOf]; omega
    · obtain rfl : k = s.size := by omega
      have HN : Hid (done ++ [(s.data.toList.drop f).take (s.size - f)] = rcutL c qs s.data.toList) := by
        have h := HX.out
        have e : s.data.toList.drop s.size = [] := List.drop_eq_nil_of_le (by rw [HLE.out]; exact Nat.le_refl _)
        rw [e] at h
        exact h
      clear hlt hk HX
      -- an append of s[f:s.size]: 44, 48: the temporaries; wo: the world; s.size: the piece's end, spelled
      have HOA : Hid (Own (wo.alloc (.cells #[.string (s.extract f s.size)] 9)) w.heap.size 9 1 (.slice A4 done.length c4) done.length (wv done)) := HO.out.alloc _
      have HN : Hid (∀ j u, ([.string (s.extract f s.size)] : List Value)[j]? = some u → (wo.alloc (.cells #[.string (s.extract f s.size)] 9)).cell? ⟨wo.heap.size, j, none⟩ = some u) := fun j u hj => by
        rw [World.cell?_alloc_at _ _ _ _ rfl]; simpa using hj
      have hA4 := hbr.alloc hbr.size (.cells #[.string (s.extract f s.size)] 9)
      clear hbr HO
      go_wp2_with (at_builtin; refine wpList_append_q _ rfl (.tmp 44) (.tmp 48) _ rfl w.heap.size 9 i0 (.string .empty) 1 16 Tryz.underlying45 ei ez ez1 ez2 rfl (by decide) (.slice A4 done.length c4) done.length (wv done) rfl HOA.out (some ⟨wo.heap.size, 0, none⟩) 1 1 [.string (s.extract f s.size)] rfl rfl (fun _ => ⟨_, rfl, fun j u hj => by rw [addr_add, Nat.zero_add]; exact HN.out j u hj⟩) (fun u hu => by simp at hu; subst hu; rfl) (by unfold maxLen; omega) (by omega) (by have := hA4.size; exact this) ?_; intro v9 w9 hown9 hg9 hat9)
      have hB9 : Below w.heap.size w w9 := hA4.grown hg9 hA4.size (fun kk e => (HOA.out.lt kk e).1)
      have HO9 : Hid (Own w9 w.heap.size 9 1 v9 (done.length + 1) (wv (done ++ [(s.data.toList.drop f).take (s.size - f)]))) := by
        unfold Hid wv
        rw [List.map_append]
        have h := hown9
        rw [ext_list] at h
        exact h
      clear hg9 hat9 hown9 HOA HN hA4
      go_wp2_with fail
      have hn9 : done.length + 1 = (rcutL c qs s.data.toList).length := by rw [← HN.out]; simp
      obtain ⟨A9, c9, rfl, _, _⟩ := HO9.out.form
      have HF : Hid (Own w9 w.heap.size 9 1 (.slice A9 (rcutL c qs s.data.toList).length c9) (rcutL c qs s.data.toList).length (wv (rcutL c qs s.data.toList))) := by
        have h := HO9.out
        rw [HN.out, hn9] at h
        exact h
      have HN9 := Lib.hid hn9
      clear hn9 HN HO9
      go_ret
      exact ⟨A9, c9, by first | rfl | (rw [HN9.out]; rfl), HF.out, hB9⟩

def isKinB (l : List Knd) (a b : ByteArray) : Bool := (kinL l a).any fun y => decide (b = y)
theorem isKin_any (l : List Knd) (a b : ByteArray) (v : Value) (w : World) (hv : Sl kndL w v l) (ha : Sm a) (hll : l.length ≤ 64) (hofs : ∀ k ∈ l, k.ofs.length ≤ 64) :
    Calls Tryz.prog 43 #[v, .string a, .string b] w fun e w' => e = .returned (.bool (isKinB l a b)) ∧ Below w.heap.size w w' := by
  have h1 := kinOf_any l a v w hv ha hll hofs
  obtain ⟨A, c, rfl, _, _⟩ := hv.form
  clear hv hofs
  go_enter Tryz.func43, Tryz.ntmps43
  go_wp2_with fail
  refine h1.mono ?_
  clear h1
  rintro e w1 ⟨u, rfl, hu, hb1⟩
  have h2 := containsStr_any (kinL l a) b u w1 hu
  obtain ⟨A1, c1, rfl, _, _⟩ := hu.form
  clear hu
  go_wp2_with fail
  refine h2.mono ?_
  clear h2
  rintro e w2 ⟨rfl, rfl⟩
  have HB : Hid (((kinL l a).any fun y => decide (b = y)) = isKinB l a b) := rfl
  generalize ((kinL l a).any fun y => decide (b = y)) = q at *
  go_wp2_with fail
  go_ret
  exact ⟨ret_bool HB.out, hb1⟩




theorem drewN_step {w wr : World} (h : ∃ m, wr = w.drewN m) (n : Nat) : ∃ m, wr.drewN n = w.drewN m := by
  obtain ⟨m, rfl⟩ := h
  exact ⟨m + n, World.drewN_drewN ..⟩
/-- Two lists, place by place. -/
theorem lists_eq {D : Type} [DecidableEq D] {a b : List D} (hl : a.length = b.length) (h : ∀ j x y, j < a.length → a[j]? = some x → b[j]? = some y → x = y) : a = b := by
  apply List.ext_getElem? 
  intro i
  by_cases hi : i < a.length
  · have h1 := List.getElem?_eq_getElem hi
    have h2 : b[i]? = some b[i] := List.getElem?_eq_getElem (by omega)
    rw [h1, h2, h i _ _ hi h1 h2]
  · rw [List.getElem?_eq_none (by omega), List.getElem?_eq_none (by omega)]
set_option maxHeartbeats 1000000 in
theorem texts_any_q (a b : List ByteArray) (va vb : Value) (w : World) (ha : Sl strL w va a) (hb : Sl strL w vb b) : Calls Tryz.prog 17 #[va, vb] w fun e w' => e = .returned (.bool (decide (a = b))) ∧ ∃ m, w' = w.drewN m := by
  obtain ⟨A, c, rfl, _, hcm⟩ := ha.form
  obtain ⟨B, d, rfl, _, hdm⟩ := hb.form
  unfold maxLen at hcm hdm
  by_cases hl : a.length = b.length
  case neg =>
    have HE : Hid (decide (a = b) = false) := decide_eq_false fun e => hl (by rw [e])
    have hl' : decide ((a.length : Int) = (b.length : Int)) = false := decide_eq_false (by omega)
    have hl2 : ((a.length : Int) == (b.length : Int)) = false := by rw [beq_eq_false_iff_ne]; omega
    clear ha hb hl
    go_enter Tryz.func17, Tryz.ntmps17
    go_wp2_with fail
    go_ret
    exact ⟨by rw [HE.out]; rfl, 0, rfl⟩
  have HL := Lib.hid hl
  have hlb : a.length ≤ b.length := by omega
  rw [← hl]
  clear hl
  go_enter Tryz.func17, Tryz.ntmps17
  go_wp2_with fail
  go_loopw [5] (fun i wr => ∃ k : Nat, k ≤ a.length ∧ i = .int .i64 k ∧ Below w.heap.size w wr ∧ Hid (∃ m, wr = w.drewN m) ∧ Hid (∀ j x y, j < k → a[j]? = some x → b[j]? = some y → x = y)) (fun i _ => a.length - (intOf i).toNat)
  case atStart => exact ⟨0, Nat.zero_le _, rfl, Below.refl _ _, ⟨0, rfl⟩, fun j x y hj => absurd hj (Nat.not_lt_zero _)⟩
  case round =>
    obtain ⟨k, hk, rfl, hbr, HM, HA⟩ := hrel
    by_cases hlt : k < a.length
    · obtain ⟨x, hx⟩ : ∃ d, a[k]? = some d := ⟨_, List.getElem?_eq_getElem hlt⟩
      obtain ⟨y, hy⟩ : ∃ d, b[k]? = some d := ⟨_, List.getElem?_eq_getElem (by omega)⟩
      have hlt' : (k : Int) < (a.length : Int) := by omega
      obtain ⟨b1, o1, rfl, _, x0⟩ := str_at (ha.below hbr) hx
      obtain ⟨b2, o2, rfl, _, y0⟩ := str_at (hb.below hbr) hy
      have HX := Lib.hid hx
      have HY := Lib.hid hy
      clear hx hy
      by_cases hq : x = y
      · have HS : Hid (∀ j x y, j < k + 1 → a[j]? = some x → b[j]? = some y → x = y) := fun j p q hj hp hq2 => by
          by_cases hjk : j = k
          · subst hjk
            have e1 := HX.out.symm.trans hp
            have e2 := HY.out.symm.trans hq2
            injection e1 with e1; injection e2 with e2
            rw [← e1, ← e2]; exact hq
          · exact HA.out j p q (by omega) hp hq2
        subst hq
        clear ha hb
        go_wp2_with fail
        go_quiet (fail)
        go_wp2_with fail
        go_roundw
        case rel => exact ⟨k + 1, by omega, by go_num, Go.below_drewN hbr _, drewN_step HM.out nq, HS⟩
        case measure => simp [intOf]; omega
      · have HE : Hid (decide (a = b) = false) := decide_eq_false fun e => by
          have e1 := HX.out
          rw [e, HY.out] at e1
          injection e1 with e1
          exact hq e1.symm
        have hqb : (x.toList == y.toList) = false := by rw [bytes_beq]; exact decide_eq_false hq
        have hqc : ¬ x.toList = y.toList := by rw [bytes_eq]; exact hq
        clear ha hb hq
        go_wp2_with fail
        go_quiet (fail)
        go_wp2_with fail
        go_ret
        exact ⟨by rw [HE.out]; rfl, drewN_step HM.out nq⟩
    · obtain rfl : k = a.length := by omega
      have HE : Hid (decide (a = b) = true) := decide_eq_true (lists_eq HL.out HA.out)
      clear ha hb
      go_wp2_with fail
      go_ret
      exact ⟨by rw [HE.out]; rfl, HM.out⟩
theorem texts_any (a b : List ByteArray) (va vb : Value) (w : World) (ha : Sl strL w va a) (hb : Sl strL w vb b) : Calls Tryz.prog 17 #[va, vb] w fun e w' => e = .returned (.bool (decide (a = b))) ∧ Below w.heap.size w w' :=
  (texts_any_q a b va vb w ha hb).mono fun _ _ ⟨h, m, hm⟩ => ⟨h, by rw [hm]; exact Go.below_drewN (Below.refl _ _) m⟩
set_option maxHeartbeats 1000000 in
theorem sfields_any_q (a b : List Fld) (va vb : Value) (w : World) (ha : Sl fldL w va a) (hb : Sl fldL w vb b) : Calls Tryz.prog 38 #[va, vb] w fun e w' => e = .returned (.bool (decide (a = b))) ∧ ∃ m, w' = w.drewN m := by
  obtain ⟨A, c, rfl, _, hcm⟩ := ha.form
  obtain ⟨B, d, rfl, _, hdm⟩ := hb.form
  unfold maxLen at hcm hdm
  by_cases hl : a.length = b.length
  case neg =>
    have HE : Hid (decide (a = b) = false) := decide_eq_false fun e => hl (by rw [e])
    have hl' : decide ((a.length : Int) = (b.length : Int)) = false := decide_eq_false (by omega)
    have hl2 : ((a.length : Int) == (b.length : Int)) = false := by rw [beq_eq_false_iff_ne]; omega
    clear ha hb hl
    go_enter Tryz.func38, Tryz.ntmps38
    go_wp2_with fail
    go_ret
    exact ⟨by rw [HE.out]; rfl, 0, rfl⟩
  have HL := Lib.hid hl
  have hlb : a.length ≤ b.length := by omega
  rw [← hl]
  clear hl
  go_enter Tryz.func38, Tryz.ntmps38
  go_wp2_with fail
  go_loopw [5] (fun i wr => ∃ k : Nat, k ≤ a.length ∧ i = .int .i64 k ∧ Below w.heap.size w wr ∧ Hid (∃ m, wr = w.drewN m) ∧ Hid (∀ j x y, j < k → a[j]? = some x → b[j]? = some y → x = y)) (fun i _ => a.length - (intOf i).toNat)
  case atStart => exact ⟨0, Nat.zero_le _, rfl, Below.refl _ _, ⟨0, rfl⟩, fun j x y hj => absurd hj (Nat.not_lt_zero _)⟩
  case round =>
    obtain ⟨k, hk, rfl, hbr, HM, HA⟩ := hrel
    by_cases hlt : k < a.length
    · obtain ⟨x, hx⟩ : ∃ d, a[k]? = some d := ⟨_, List.getElem?_eq_getElem hlt⟩
      obtain ⟨y, hy⟩ : ∃ d, b[k]? = some d := ⟨_, List.getElem?_eq_getElem (by omega)⟩
      have hlt' : (k : Int) < (a.length : Int) := by omega
      obtain ⟨b1, o1, rfl, _, x0, x1, x2, x3⟩ := fld_at (ha.below hbr) hx
      obtain ⟨b2, o2, rfl, _, y0, y1, y2, y3⟩ := fld_at (hb.below hbr) hy
      have hneq := fld_neq x y
      have hgd := fld_guard
      have HX := Lib.hid hx
      have HY := Lib.hid hy
      clear hx hy
      by_cases hq : x = y
      · have HS : Hid (∀ j x y, j < k + 1 → a[j]? = some x → b[j]? = some y → x = y) := fun j p q hj hp hq2 => by
          by_cases hjk : j = k
          · subst hjk
            have e1 := HX.out.symm.trans hp
            have e2 := HY.out.symm.trans hq2
            injection e1 with e1; injection e2 with e2
            rw [← e1, ← e2]; exact hq
          · exact HA.out j p q (by omega) hp hq2
        rw [decide_eq_true hq] at hneq
        clear ha hb hq
        go_wp2_with fail
        go_quiet (fail)
        go_wp2_with fail
        go_roundw
        case rel => exact ⟨k + 1, by omega, by go_num, Go.below_drewN hbr _, drewN_step HM.out nq, HS⟩
        case measure => simp [intOf]; omega
      · have HE : Hid (decide (a = b) = false) := decide_eq_false fun e => by
          have e1 := HX.out
          rw [e, HY.out] at e1
          injection e1 with e1
          exact hq e1.symm
        rw [decide_eq_false hq] at hneq
        clear ha hb hq
        go_wp2_with fail
        go_quiet (fail)
        go_wp2_with fail
        go_ret
        exact ⟨by rw [HE.out]; rfl, drewN_step HM.out nq⟩
    · obtain rfl : k = a.length := by omega
      have HE : Hid (decide (a = b) = true) := decide_eq_true (lists_eq HL.out HA.out)
      clear ha hb
      go_wp2_with fail
      go_ret
      exact ⟨by rw [HE.out]; rfl, HM.out⟩
theorem sfields_any (a b : List Fld) (va vb : Value) (w : World) (ha : Sl fldL w va a) (hb : Sl fldL w vb b) : Calls Tryz.prog 38 #[va, vb] w fun e w' => e = .returned (.bool (decide (a = b))) ∧ Below w.heap.size w w' :=
  (sfields_any_q a b va vb w ha hb).mono fun _ _ ⟨h, m, hm⟩ => ⟨h, by rw [hm]; exact Go.below_drewN (Below.refl _ _) m⟩

theorem bytes_at (s : ByteArray) (k : Nat) (h : k < s.size) : s.data.toList[k]? = some s[k] := by
  rw [List.getElem?_eq_getElem (by simpa using h)]; rfl
set_option maxHeartbeats 1000000 in
theorem rname_any (s : ByteArray) (w : World) (hs : Sm s) : Calls Tryz.prog 19 #[.string s] w fun e w' => e = .returned (.int .i64 (nameE s)) ∧ w = w' := by
  unfold Sm at hs
  by_cases h0 : s.toList.isEmpty = true
  · have HE : Hid (nameE s = 2) := by unfold Hid nameE; rw [if_pos h0]
    have h1 : s.toList = [] := by simpa using h0
    clear h0
    go_enter Tryz.func19, Tryz.ntmps19
    go_wp2_with fail
    go_ret
    exact ⟨by rw [HE.out]; rfl, rfl⟩
  have h1 : s.toList.isEmpty = false := by simpa using h0
  have h2 : ¬ s.toList = [] := by intro e; rw [e] at h1; simp at h1
  by_cases h8 : 8 < s.size
  · have HE : Hid (nameE s = 2) := by unfold Hid nameE; rw [if_neg h0, if_pos h8]
    have h8' : (8 : Int) < (s.size : Int) := by omega
    clear h0
    go_enter Tryz.func19, Tryz.ntmps19
    go_wp2_with fail
    go_ret
    exact ⟨by rw [HE.out]; rfl, rfl⟩
  have h8' : (s.size : Int) ≤ 8 := by omega
  have HE0 : Hid (nameE s = if s.data.toList.any nameC then 2 else 0) := by unfold Hid nameE; rw [if_neg h0, if_neg h8]
  clear h0
  go_enter Tryz.func19, Tryz.ntmps19
  go_wp2_with fail
  go_loop [3] (fun i => ∃ k : Nat, k ≤ s.size ∧ i = .int .i64 k ∧ Hid (∀ j x, j < k → s.data.toList[j]? = some x → nameC x = false)) (fun i => s.size - (intOf i).toNat)
  case atStart => exact ⟨0, Nat.zero_le _, rfl, fun j x hj => absurd hj (Nat.not_lt_zero _)⟩
  case round =>
    obtain ⟨k, hk, rfl, HA⟩ := hrel
    by_cases hlt : k < s.size
    · have hlt' : (k : Int) < (s.size : Int) := by omega
      have HB := Lib.hid (bytes_at s k hlt)
      by_cases hlo : (s[k].toNat : Int) < 97
      · have HE : Hid (nameE s = 2) := by
          unfold Hid; rw [HE0.out, if_pos]
          exact List.any_eq_true.2 ⟨_, List.mem_of_getElem? HB.out, by unfold nameC; rw [decide_eq_true hlo]; rfl⟩
        clear HE0
        go_wp2_with fail
        go_ret
        exact ⟨by rw [HE.out]; rfl, rfl⟩
      · have hlo' : (97 : Int) ≤ (s[k].toNat : Int) := by omega
        by_cases hhi : (122 : Int) < (s[k].toNat : Int)
        · have HE : Hid (nameE s = 2) := by
            unfold Hid; rw [HE0.out, if_pos]
            exact List.any_eq_true.2 ⟨_, List.mem_of_getElem? HB.out, by unfold nameC; rw [decide_eq_true hhi]; simp⟩
          clear HE0
          go_wp2_with fail
          go_ret
          exact ⟨by rw [HE.out]; rfl, rfl⟩
        · have hhi' : (s[k].toNat : Int) ≤ 122 := by omega
          have HS : Hid (∀ j x, j < k + 1 → s.data.toList[j]? = some x → nameC x = false) := miss_step HA.out HB.out (by unfold nameC; rw [decide_eq_false hlo, decide_eq_false hhi]; rfl)
          clear hlo hhi HE0
          go_wp2_with fail
          go_round
          case rel => exact ⟨k + 1, by omega, by go_num, HS⟩
          case measure => simp [intOf]; omega
    · obtain rfl : k = s.size := by omega
      have HE : Hid (nameE s = 0) := by
        unfold Hid; rw [HE0.out, if_neg]
        intro h
        obtain ⟨x, hx, hc⟩ := List.any_eq_true.1 h
        obtain ⟨j, hj⟩ := List.mem_iff_getElem?.1 hx
        have := HA.out j x (by have := (List.getElem?_eq_some_iff.1 hj).1; simpa using this) hj
        rw [this] at hc; cases hc
      clear HE0
      go_wp2_with fail
      go_ret
      exact ⟨by rw [HE.out]; rfl, rfl⟩

set_option maxHeartbeats 1000000 in
theorem rkind_any (l : List Knd) (name : ByteArray) (v : Value) (w : World) (hv : Sl kndL w v l) : Calls Tryz.prog 14 #[v, .string name] w fun e w' => e = .returned (.int .i64 (kFind l name)) ∧ w = w' := by
  obtain ⟨A, c, rfl, hlc, hcm⟩ := hv.form
  unfold maxLen at hcm
  go_enter Tryz.func14, Tryz.ntmps14
  go_wp2_with fail
  go_loop [5] (fun i => ∃ k : Nat, k ≤ l.length ∧ i = .int .i64 k ∧ Hid (∀ j x, j < k → l[j]? = some x → decide (x.name = name) = false)) (fun i => l.length - (intOf i).toNat)
  case atStart => exact ⟨0, Nat.zero_le _, rfl, fun j x hj => absurd hj (Nat.not_lt_zero _)⟩
  case round =>
    obtain ⟨k, hk, rfl, HA⟩ := hrel
    by_cases hlt : k < l.length
    · obtain ⟨d, hd⟩ : ∃ d, l[k]? = some d := ⟨_, List.getElem?_eq_getElem hlt⟩
      obtain ⟨b, o, rfl, u, x, _, _, _, c0, _, _⟩ := knd_at hv hd
      have HD : Hid (l[k]? = some d) := hd
      clear hd hv
      by_cases hq0 : d.name = name
      · have hq : decide (d.name = name) = true := decide_eq_true hq0
        have HE : Hid (kFind l name = k) := by unfold Hid kFind; exact idxI_hit (p := fun k : Knd => decide (k.name = name)) HA.out HD.out hq
        clear hq
        subst hq0
        go_wp2_with fail
        go_ret
        exact ⟨by rw [HE.out]; rfl, rfl⟩
      · have hq : decide (d.name = name) = false := decide_eq_false hq0
        have hqb : (d.name.toList == name.toList) = false := by rw [bytes_beq]; exact hq
        have HS : Hid (∀ j y, j < k + 1 → l[j]? = some y → decide (y.name = name) = false) := miss_step (p := fun k : Knd => decide (k.name = name)) HA.out HD.out hq
        go_wp2_with fail
        go_round
        case rel => exact ⟨k + 1, by omega, by go_num, HS⟩
        case measure => simp [intOf]; omega
    · have hkl : k = l.length := by omega
      subst hkl
      have HE : Hid (kFind l name = -1) := by unfold Hid kFind; exact idxI_miss (p := fun k : Knd => decide (k.name = name)) HA.out
      clear hv
      go_wp2_with fail
      go_ret
      exact ⟨by rw [HE.out]; rfl, rfl⟩

theorem take_next {l : List UInt8} {k : Nat} {x : UInt8} (h : l[k]? = some x) : l.take (k + 1) = l.take k ++ [x] := by rw [List.take_add_one, h]; rfl
end Go.Proofs.YtfeccicogcnhcaaGreatDoor
