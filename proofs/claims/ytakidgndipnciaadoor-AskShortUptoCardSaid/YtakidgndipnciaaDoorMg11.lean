/- Parts: Mask. -/
import Derived.Test.YtakidgndipnciaaDoorMg01
import Derived.Deep.DeepCutAuto
import Derived.Deep.CutBlock
import Derived.Deep.Light
/- Plain: cuts and loops whose forgotten slots are held by ONE function and not by so many existentials. No condition. -/
namespace Go.Proofs.YtakidgndipnciaaDoor
open Go Go.RowKit

/-- What a slot holds behind a cut: what it held (k), anything (y n), or the relation's argument (a, b, c, d). -/
inductive Mk where
  | k
  | y (n : Nat)
  | a
  | b
  | c
  | d
open Mk in
def spread (f : Nat → Value) (va vb vc vd : Value) : List Mk → List Value → List Value
  | [], _ => []
  | _ :: _, [] => []
  | .k :: m, v :: l => v :: spread f va vb vc vd m l
  | .y n :: m, _ :: l => f n :: spread f va vb vc vd m l
  | .a :: m, _ :: l => va :: spread f va vb vc vd m l
  | .b :: m, _ :: l => vb :: spread f va vb vc vd m l
  | .c :: m, _ :: l => vc :: spread f va vb vc vd m l
  | .d :: m, _ :: l => vd :: spread f va vb vc vd m l
/-- The kept slots of l, the others of r. -/
def blend : List Mk → List Value → List Value → List Value
  | [], _, _ => []
  | _ :: _, [], _ => []
  | .k :: m, v :: l, _ :: r => v :: blend m l r
  | .k :: m, v :: l, [] => v :: blend m l []
  | _ :: m, _ :: l, v :: r => v :: blend m l r
  | _ :: m, _ :: l, [] => undef :: blend m l []
/-- The numbers are the places. -/
def placed (s0 s1 s2 s3 : Nat) : Nat → List Mk → Bool
  | _, [] => true
  | i, .k :: m => placed s0 s1 s2 s3 (i + 1) m
  | i, .y n :: m => (n == i) && placed s0 s1 s2 s3 (i + 1) m
  | i, .a :: m => (s0 == i) && placed s0 s1 s2 s3 (i + 1) m
  | i, .b :: m => (s1 == i) && placed s0 s1 s2 s3 (i + 1) m
  | i, .c :: m => (s2 == i) && placed s0 s1 s2 s3 (i + 1) m
  | i, .d :: m => (s3 == i) && placed s0 s1 s2 s3 (i + 1) m
theorem blend_spread (g : Nat → Value) (s0 s1 s2 s3 : Nat) : ∀ (m : List Mk) (l r : List Value) (i : Nat), placed s0 s1 s2 s3 i m = true → (∀ k, r.getD k undef = g (i + k)) → blend m l r = spread g (g s0) (g s1) (g s2) (g s3) m l
  | [], l, r, i, _, _ => by cases l <;> rfl
  | x :: m, [], r, i, _, _ => by cases x <;> rfl
  | x :: m, v :: l, [], i, hp, hg => by
    have hg' : ∀ k, ([] : List Value).getD k undef = g (i + 1 + k) := fun k => by rw [show i + 1 + k = i + (k + 1) by omega, ← hg]; rfl
    have h0 : g i = undef := by have := hg 0; rw [Nat.add_zero] at this; rw [← this]; rfl
    cases x with
    | k => show v :: _ = v :: _; rw [blend_spread g s0 s1 s2 s3 m l [] (i + 1) hp hg']
    | y n =>
      have hp' : (n == i) = true ∧ placed s0 s1 s2 s3 (i + 1) m = true := by simpa [placed] using hp
      show undef :: _ = g n :: _
      rw [blend_spread g s0 s1 s2 s3 m l [] (i + 1) hp'.2 hg', eq_of_beq hp'.1, h0]
    | a =>
      have hp' : (s0 == i) = true ∧ placed s0 s1 s2 s3 (i + 1) m = true := by simpa [placed] using hp
      show undef :: _ = g s0 :: _
      rw [blend_spread g s0 s1 s2 s3 m l [] (i + 1) hp'.2 hg', eq_of_beq hp'.1, h0]
    | b =>
      have hp' : (s1 == i) = true ∧ placed s0 s1 s2 s3 (i + 1) m = true := by simpa [placed] using hp
      show undef :: _ = g s1 :: _
      rw [blend_spread g s0 s1 s2 s3 m l [] (i + 1) hp'.2 hg', eq_of_beq hp'.1, h0]
    | c =>
      have hp' : (s2 == i) = true ∧ placed s0 s1 s2 s3 (i + 1) m = true := by simpa [placed] using hp
      show undef :: _ = g s2 :: _
      rw [blend_spread g s0 s1 s2 s3 m l [] (i + 1) hp'.2 hg', eq_of_beq hp'.1, h0]
    | d =>
      have hp' : (s3 == i) = true ∧ placed s0 s1 s2 s3 (i + 1) m = true := by simpa [placed] using hp
      show undef :: _ = g s3 :: _
      rw [blend_spread g s0 s1 s2 s3 m l [] (i + 1) hp'.2 hg', eq_of_beq hp'.1, h0]
  | x :: m, v :: l, u :: r, i, hp, hg => by
    have hg' : ∀ k, r.getD k undef = g (i + 1 + k) := fun k => by rw [show i + 1 + k = i + (k + 1) by omega, ← hg]; rfl
    have h0 : g i = u := by have := hg 0; rw [Nat.add_zero] at this; rw [← this]; rfl
    cases x with
    | k => show v :: _ = v :: _; rw [blend_spread g s0 s1 s2 s3 m l r (i + 1) hp hg']
    | y n =>
      have hp' : (n == i) = true ∧ placed s0 s1 s2 s3 (i + 1) m = true := by simpa [placed] using hp
      show u :: _ = g n :: _
      rw [blend_spread g s0 s1 s2 s3 m l r (i + 1) hp'.2 hg', eq_of_beq hp'.1, h0]
    | a =>
      have hp' : (s0 == i) = true ∧ placed s0 s1 s2 s3 (i + 1) m = true := by simpa [placed] using hp
      show u :: _ = g s0 :: _
      rw [blend_spread g s0 s1 s2 s3 m l r (i + 1) hp'.2 hg', eq_of_beq hp'.1, h0]
    | b =>
      have hp' : (s1 == i) = true ∧ placed s0 s1 s2 s3 (i + 1) m = true := by simpa [placed] using hp
      show u :: _ = g s1 :: _
      rw [blend_spread g s0 s1 s2 s3 m l r (i + 1) hp'.2 hg', eq_of_beq hp'.1, h0]
    | c =>
      have hp' : (s2 == i) = true ∧ placed s0 s1 s2 s3 (i + 1) m = true := by simpa [placed] using hp
      show u :: _ = g s2 :: _
      rw [blend_spread g s0 s1 s2 s3 m l r (i + 1) hp'.2 hg', eq_of_beq hp'.1, h0]
    | d =>
      have hp' : (s3 == i) = true ∧ placed s0 s1 s2 s3 (i + 1) m = true := by simpa [placed] using hp
      show u :: _ = g s3 :: _
      rw [blend_spread g s0 s1 s2 s3 m l r (i + 1) hp'.2 hg', eq_of_beq hp'.1, h0]
/-- What a slot holds. -/
def nth : List Value → Nat → Option Value
  | [], _ => some undef
  | v :: _, 0 => some v
  | _ :: l, n + 1 => nth l n
theorem nth_get : ∀ (l : List Value) (n : Nat), nth l n = some (l.getD n undef)
  | [], _ => rfl
  | _ :: _, 0 => rfl
  | _ :: l, n + 1 => nth_get l n
/-- A frame that is l but for what is forgotten; R: what the told slots and the world are. -/
def Forgot (m : List Mk) (l : List Value) (dl : List Deferred) (s0 s1 s2 s3 : Nat) (R : Value → Value → Value → Value → World → Prop) (a' : Act) (w' : World) : Prop :=
  ∃ (r : List Value) (v0 v1 v2 v3 : Value), a' = ⟨r.toArray, dl⟩ ∧ blend m l r = r ∧ nth r s0 = some v0 ∧ nth r s1 = some v1 ∧ nth r s2 = some v2 ∧ nth r s3 = some v3 ∧ R v0 v1 v2 v3 w'
theorem Forgot.at {m : List Mk} {l : List Value} {dl : List Deferred} {s0 s1 s2 s3 : Nat} {R : Value → Value → Value → Value → World → Prop} {a' : Act} {w' : World} (r : List Value) (v0 v1 v2 v3 : Value) (ha : a' = ⟨r.toArray, dl⟩) (hb : blend m l r = r) (h0 : nth r s0 = some v0) (h1 : nth r s1 = some v1) (h2 : nth r s2 = some v2) (h3 : nth r s3 = some v3) (rel : R v0 v1 v2 v3 w') : Forgot m l dl s0 s1 s2 s3 R a' w' := ⟨r, v0, v1, v2, v3, ha, hb, h0, h1, h2, h3, rel⟩
theorem Forgot.spread {m : List Mk} {l : List Value} {dl : List Deferred} {s0 s1 s2 s3 : Nat} {R : Value → Value → Value → Value → World → Prop} {a' : Act} {w' : World} (hp : placed s0 s1 s2 s3 0 m = true) (h : Forgot m l dl s0 s1 s2 s3 R a' w') : ∃ f v0 v1 v2 v3, R v0 v1 v2 v3 w' ∧ a' = ⟨(spread f v0 v1 v2 v3 m l).toArray, dl⟩ := by
  obtain ⟨r, v0, v1, v2, v3, rfl, hb, h0, h1, h2, h3, hR⟩ := h
  rw [nth_get] at h0 h1 h2 h3
  injection h0 with h0
  injection h1 with h1
  injection h2 with h2
  injection h3 with h3
  refine ⟨fun k => r.getD k undef, v0, v1, v2, v3, hR, ?_⟩
  have e := blend_spread (fun k => r.getD k undef) s0 s1 s2 s3 m l r 0 hp (fun k => by rw [Nat.zero_add])
  rw [h0, h1, h2, h3] at e
  rw [← e, hb]
theorem blend_self : ∀ (m : List Mk) (l : List Value), m.length = l.length → blend m l l = l
  | [], [], _ => rfl
  | x :: m, v :: l, h => by
    have := blend_self m l (by simpa using h)
    cases x <;> (show v :: _ = v :: _; rw [this])
theorem wp_cutm {P : Program} {s : Code} {K : Act → World → Prop} {Q' : Exit → Act → World → Prop} {l : List Value} {dl : List Deferred} {w : World} (m : List Mk) (s0 s1 s2 s3 : Nat) (hp : placed s0 s1 s2 s3 0 m = true) (R : Value → Value → Value → Value → World → Prop)
    (rest : ∀ (f : Nat → Value) v0 v1 v2 v3 w', R v0 v1 v2 v3 w' → K ⟨(spread f v0 v1 v2 v3 m l).toArray, dl⟩ w')
    (first : ∀ (J K' : Act → World → Prop), (∀ a' w', Forgot m l dl s0 s1 s2 s3 R a' w' → J a' w') → (∀ a' w', Met J a' w' → K' a' w') → s.wp P (Exit.then K' Q') ⟨l.toArray, dl⟩ w) : s.wp P (Exit.then K Q') ⟨l.toArray, dl⟩ w := by
  refine wp_cut (Forgot m l dl s0 s1 s2 s3 R) ?_ first
  intro a' w' h
  obtain ⟨f, v0, v1, v2, v3, hR, rfl⟩ := h.spread hp
  exact rest f v0 v1 v2 v3 w' hR
/-- A round has come to its end. -/
def Rounded (m : List Mk) (l : List Value) (dl : List Deferred) (s0 s1 s2 s3 : Nat) (R : Value → Value → Value → Value → World → Prop) (mu : Value → Value → Value → Value → World → Nat) (n : Nat) (a' : Act) (w' : World) : Prop :=
  Forgot m l dl s0 s1 s2 s3 (fun v0 v1 v2 v3 w => R v0 v1 v2 v3 w ∧ mu v0 v1 v2 v3 w < n) a' w'
theorem Rounded.at {m : List Mk} {l : List Value} {dl : List Deferred} {s0 s1 s2 s3 : Nat} {R : Value → Value → Value → Value → World → Prop} {mu : Value → Value → Value → Value → World → Nat} {n : Nat} {a' : Act} {w' : World} (r : List Value) (v0 v1 v2 v3 : Value) (ha : a' = ⟨r.toArray, dl⟩) (hb : blend m l r = r) (h0 : nth r s0 = some v0) (h1 : nth r s1 = some v1) (h2 : nth r s2 = some v2) (h3 : nth r s3 = some v3) (rel : R v0 v1 v2 v3 w') (measure : mu v0 v1 v2 v3 w' < n) : Rounded m l dl s0 s1 s2 s3 R mu n a' w' := ⟨r, v0, v1, v2, v3, ha, hb, h0, h1, h2, h3, rel, measure⟩
theorem wp_loopm {P : Program} {c : Code} {Q' : Exit → Act → World → Prop} {l : List Value} {dl : List Deferred} {w : World} (m : List Mk) (s0 s1 s2 s3 : Nat) (hp : placed s0 s1 s2 s3 0 m = true) (hl : m.length = l.length) (R : Value → Value → Value → Value → World → Prop) (mu : Value → Value → Value → Value → World → Nat)
    (v0 v1 v2 v3 : Value) (h0 : nth l s0 = some v0) (h1 : nth l s1 = some v1) (h2 : nth l s2 = some v2) (h3 : nth l s3 = some v3)
    (start : R v0 v1 v2 v3 w)
    (round : ∀ (f : Nat → Value) v0 v1 v2 v3 wr, R v0 v1 v2 v3 wr → c.wp P (Exit.then (Rounded m l dl s0 s1 s2 s3 R mu (mu v0 v1 v2 v3 wr)) Q') ⟨(spread f v0 v1 v2 v3 m l).toArray, dl⟩ wr) : (Code.loop c).wp P Q' ⟨l.toArray, dl⟩ w := by
  refine wp_loop (Forgot m l dl s0 s1 s2 s3 R) (fun a w => mu (a.tmps.getD s0 undef) (a.tmps.getD s1 undef) (a.tmps.getD s2 undef) (a.tmps.getD s3 undef) w) ⟨l, v0, v1, v2, v3, rfl, blend_self m l hl, h0, h1, h2, h3, start⟩ ?_
  have hg : ∀ (r : List Value) k, r.toArray.getD k undef = r.getD k undef := fun r k => by simp [Array.getD_eq_getD_getElem?]
  have hn : ∀ {r : List Value} {k : Nat} {v : Value}, nth r k = some v → r.getD k undef = v := fun {r k v} h => by rw [nth_get] at h; injection h
  rintro a' wr ⟨r, u0, u1, u2, u3, rfl, hb, e0, e1, e2, e3, hR⟩
  have e := blend_spread (fun k => r.getD k undef) s0 s1 s2 s3 m l r 0 hp (fun k => by rw [Nat.zero_add])
  have hr := round (fun k => r.getD k undef) u0 u1 u2 u3 wr hR
  rw [hn e0, hn e1, hn e2, hn e3, hb] at e
  rw [← e] at hr
  refine wp_mono hr ?_
  intro e a2 w2 hq
  cases e with
  | normal =>
    obtain ⟨r2, x0, x1, x2, x3, rfl, hb2, f0, f1, f2, f3, hR2, hlt⟩ := hq
    refine ⟨⟨r2, x0, x1, x2, x3, rfl, hb2, f0, f1, f2, f3, hR2⟩, ?_⟩
    show mu (r2.toArray.getD s0 undef) _ _ _ _ < mu (r.toArray.getD s0 undef) _ _ _ _
    rw [hg, hg, hg, hg, hg, hg, hg, hg, hn f0, hn f1, hn f2, hn f3, hn e0, hn e1, hn e2, hn e3]
    exact hlt
  | exit id => exact hq
  | goto l => exact hq
  | ret => exact hq
  | panic ch => exact hq
  | outgrown => exact hq
end Go.Proofs.YtakidgndipnciaaDoor
