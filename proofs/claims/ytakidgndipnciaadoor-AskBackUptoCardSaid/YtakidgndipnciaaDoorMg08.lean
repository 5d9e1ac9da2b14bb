/- Parts: TxW, TxM, Mask, RxA. -/
import Derived.Test.YtakidgndipnciaaDoorMg07
import Derived.Test.YtakidgndipnciaaDoorMg04
import Derived.Test.YtakidgndipnciaaDoorMg05
import Derived.Test.YtakidgndipnciaaDoorMg06
import Derived.Test.YtakidgndipnciaaDoorMg03
import Derived.Shelf.Strings.Cut
import Derived.Shelf.Strings.Split
import Derived.Shelf.Small.Wraps
import Derived.Shelf.Small.Strs
import Derived.Test.YtakidgndipnciaaDoorMg01
import Derived.Deep.DeepCutAuto
import Derived.Deep.CutBlock
import Derived.Deep.Light
import Derived.Deep.RegionHeld3
import Derived.BigRegion
/- Words in a row of the call's own, and what strings.Join makes of them. -/
namespace Go.Proofs.YtakidgndipnciaaDoor
open Go Go.RowKit

theorem map_bs (xs : List (List UInt8)) : (xs.map bs).map (·.data.toList) = xs := by
  rw [List.map_map]
  conv => rhs; rw [← List.map_id xs]
  exact List.map_congr_left fun x _ => bs_list x
/-- Words, in a row of the call's own. -/
def wv (xs : List (List UInt8)) : List Value := xs.map fun l => Value.string (bs l)
theorem wv_at {xs : List (List UInt8)} {j : Nat} {x : ByteArray} (h : (xs.map bs)[j]? = some x) : (wv xs)[j]? = some (.string x) := by
  rw [List.getElem?_map] at h
  obtain ⟨l, hl, rfl⟩ := Option.map_eq_some_iff.1 h
  unfold wv
  rw [List.getElem?_map, hl]; rfl
/-- What Join makes of them. -/
theorem join_own (B : Nat) (w : World) (bk o c : Nat) (xs : List (List UInt8)) (sep : List UInt8) (h : Own w B 9 1 (.slice (some ⟨bk, o, none⟩) xs.length c) xs.length (wv xs)) (hl : xs.length ≤ 1000) (hc : xs.length ≤ c) (hj : (Lib.join xs sep).length ≤ 1000000) :
    Calls Tryd.prog 20 #[.slice (some ⟨bk, o, none⟩) xs.length c, .string (bs sep)] w fun e w' => e = .returned (.string (bs (Lib.join xs sep))) ∧ Below w.heap.size w w' := by
  have h1 := tx_join bk o c (xs.map bs) (bs sep) w (fun j x hj => h.cell rfl (wv_at hj)) (h.lt bk rfl).2 (by rw [List.length_map]; omega) (by rw [List.length_map]; exact hc) (by rw [map_bs, bs_list]; omega)
  rw [map_bs, bs_list, List.length_map] at h1
  exact h1
open Go Go.Shelf Go.RowKit

-- written by shelflay.py for the seat YtakidgndipnciaaDoor
def idxBLay_ren : Go.Shelf.Ren := ⟨fun | 137 => 38 | 217 => 49 | 266 => 57 | n => n, fun | 9 => 9 | 5 => 5 | 3 => 3 | 20 => 20 | n => n, fun | n => n⟩
theorem idxBLay : Go.Proofs.Lays.n137 Tryd.prog idxBLay_ren := {
  mixed := by kernel_rfl,
  f137 := Tryd.func38.trans (congrArg some (by kernel_rfl)),
  f217 := Tryd.func49.trans (congrArg some (by kernel_rfl)),
  f266 := Tryd.func57.trans (congrArg some (by kernel_rfl)),
  t3 := Tryd.underlying3,
  a3 := Tryd.isAgg3,
  z3 := Tryd.sizeOf3,
  v3 := Tryd.zeroValue3,
  t5 := Tryd.underlying5,
  a5 := Tryd.isAgg5,
  z5 := Tryd.sizeOf5,
  v5 := Tryd.zeroValue5,
  t9 := Tryd.underlying9,
  a9 := Tryd.isAgg9,
  z9 := Tryd.sizeOf9,
  v9 := Tryd.zeroValue9 }

theorem tx_idxByte (s : ByteArray) (c : Int) (w : World) :
    Calls Tryd.prog 38 #[.string s, .int .u8 c] w fun e w' => e = .returned (.int .i64 (Lib.indexByte s.data.toList c.toNat.toUInt8)) ∧ w = w' :=
  (Any.strings_IndexByte idxBLay s c w).mono fun _ _ ⟨he, hw⟩ => ⟨he, hw.symm⟩

/-- What a slot holds behind a cut: what it held (k), anything (y n), or the relation's argument (a, b, c, d). -/
inductive Mk where
  | k
  | y (n : Nat)
  | a
  | b
  | c
  | d
open Mk in
def spread (f : Nat → Value) (va vb vc vd : Value) : List Mk → List Value → List Value
  | [], _ => []
  | _ :: _, [] => []
  | .k :: m, v :: l => v :: spread f va vb vc vd m l
  | .y n :: m, _ :: l => f n :: spread f va vb vc vd m l
  | .a :: m, _ :: l => va :: spread f va vb vc vd m l
  | .b :: m, _ :: l => vb :: spread f va vb vc vd m l
  | .c :: m, _ :: l => vc :: spread f va vb vc vd m l
  | .d :: m, _ :: l => vd :: spread f va vb vc vd m l
/-- The kept slots of l, the others of r. -/
def blend : List Mk → List Value → List Value → List Value
  | [], _, _ => []
  | _ :: _, [], _ => []
  | .k :: m, v :: l, _ :: r => v :: blend m l r
  | .k :: m, v :: l, [] => v :: blend m l []
  | _ :: m, _ :: l, v :: r => v :: blend m l r
  | _ :: m, _ :: l, [] => undef :: blend m l []
/-- The numbers are the places. -/
def placed (s0 s1 s2 s3 : Nat) : Nat → List Mk → Bool
  | _, [] => true
  | i, .k :: m => placed s0 s1 s2 s3 (i + 1) m
  | i, .y n :: m => (n == i) && placed s0 s1 s2 s3 (i + 1) m
  | i, .a :: m => (s0 == i) && placed s0 s1 s2 s3 (i + 1) m
  | i, .b :: m => (s1 == i) && placed s0 s1 s2 s3 (i + 1) m
  | i, .c :: m => (s2 == i) && placed s0 s1 s2 s3 (i + 1) m
  | i, .d :: m => (s3 == i) && placed s0 s1 s2 s3 (i + 1) m
theorem blend_spread (g : Nat → Value) (s0 s1 s2 s3 : Nat) : ∀ (m : List Mk) (l r : List Value) (i : Nat), placed s0 s1 s2 s3 i m = true → (∀ k, r.getD k undef = g (i + k)) → blend m l r = spread g (g s0) (g s1) (g s2) (g s3) m l
  | [], l, r, i, _, _ => by cases l <;> rfl
  | x :: m, [], r, i, _, _ => by cases x <;> rfl
  | x :: m, v :: l, [], i, hp, hg => by
    have hg' : ∀ k, ([] : List Value).getD k undef = g (i + 1 + k) := fun k => by rw [show i + 1 + k = i + (k + 1) by omega, ← hg]; rfl
    have h0 : g i = undef := by have := hg 0; rw [Nat.add_zero] at this; rw [← this]; rfl
    cases x with
    | k => show v :: _ = v :: _; rw [blend_spread g s0 s1 s2 s3 m l [] (i + 1) hp hg']
    | y n =>
      have hp' : (n == i) = true ∧ placed s0 s1 s2 s3 (i + 1) m = true := by simpa [placed] using hp
      show undef :: _ = g n :: _
      rw [blend_spread g s0 s1 s2 s3 m l [] (i + 1) hp'.2 hg', eq_of_beq hp'.1, h0]
    | a =>
      have hp' : (s0 == i) = true ∧ placed s0 s1 s2 s3 (i + 1) m = true := by simpa [placed] using hp
      show undef :: _ = g s0 :: _
      rw [blend_spread g s0 s1 s2 s3 m l [] (i + 1) hp'.2 hg', eq_of_beq hp'.1, h0]
    | b =>
      have hp' : (s1 == i) = true ∧ placed s0 s1 s2 s3 (i + 1) m = true := by simpa [placed] using hp
      show undef :: _ = g s1 :: _
      rw [blend_spread g s0 s1 s2 s3 m l [] (i + 1) hp'.2 hg', eq_of_beq hp'.1, h0]
    | c =>
      have hp' : (s2 == i) = true ∧ placed s0 s1 s2 s3 (i + 1) m = true := by simpa [placed] using hp
      show undef :: _ = g s2 :: _
      rw [blend_spread g s0 s1 s2 s3 m l [] (i + 1) hp'.2 hg', eq_of_beq hp'.1, h0]
    | d =>
      have hp' : (s3 == i) = true ∧ placed s0 s1 s2 s3 (i + 1) m = true := by simpa [placed] using hp
      show undef :: _ = g s3 :: _
      rw [blend_spread g s0 s1 s2 s3 m l [] (i + 1) hp'.2 hg', eq_of_beq hp'.1, h0]
  | x :: m, v :: l, u :: r, i, hp, hg => by
    have hg' : ∀ k, r.getD k undef = g (i + 1 + k) := fun k => by rw [show i + 1 + k = i + (k + 1) by omega, ← hg]; rfl
    have h0 : g i = u := by have := hg 0; rw [Nat.add_zero] at this; rw [← this]; rfl
    cases x with
    | k => show v :: _ = v :: _; rw [blend_spread g s0 s1 s2 s3 m l r (i + 1) hp hg']
    | y n =>
      have hp' : (n == i) = true ∧ placed s0 s1 s2 s3 (i + 1) m = true := by simpa [placed] using hp
      show u :: _ = g n :: _
      rw [blend_spread g s0 s1 s2 s3 m l r (i + 1) hp'.2 hg', eq_of_beq hp'.1, h0]
    | a =>
      have hp' : (s0 == i) = true ∧ placed s0 s1 s2 s3 (i + 1) m = true := by simpa [placed] using hp
      show u :: _ = g s0 :: _
      rw [blend_spread g s0 s1 s2 s3 m l r (i + 1) hp'.2 hg', eq_of_beq hp'.1, h0]
    | b =>
      have hp' : (s1 == i) = true ∧ placed s0 s1 s2 s3 (i + 1) m = true := by simpa [placed] using hp
      show u :: _ = g s1 :: _
      rw [blend_spread g s0 s1 s2 s3 m l r (i + 1) hp'.2 hg', eq_of_beq hp'.1, h0]
    | c =>
      have hp' : (s2 == i) = true ∧ placed s0 s1 s2 s3 (i + 1) m = true := by simpa [placed] using hp
      show u :: _ = g s2 :: _
      rw [blend_spread g s0 s1 s2 s3 m l r (i + 1) hp'.2 hg', eq_of_beq hp'.1, h0]
    | d =>
      have hp' : (s3 == i) = true ∧ placed s0 s1 s2 s3 (i + 1) m = true := by simpa [placed] using hp
      show u :: _ = g s3 :: _
      rw [blend_spread g s0 s1 s2 s3 m l r (i + 1) hp'.2 hg', eq_of_beq hp'.1, h0]
/-- What a slot holds. -/
def nth : List Value → Nat → Option Value
  | [], _ => some undef
  | v :: _, 0 => some v
  | _ :: l, n + 1 => nth l n
theorem nth_get : ∀ (l : List Value) (n : Nat), nth l n = some (l.getD n undef)
  | [], _ => rfl
  | _ :: _, 0 => rfl
  | _ :: l, n + 1 => nth_get l n
/-- A frame that is l but for what is forgotten; R: what the told slots and the world are. -/
def Forgot (m : List Mk) (l : List Value) (dl : List Deferred) (s0 s1 s2 s3 : Nat) (R : Value → Value → Value → Value → World → Prop) (a' : Act) (w' : World) : Prop :=
  ∃ (r : List Value) (v0 v1 v2 v3 : Value), a' = ⟨r.toArray, dl⟩ ∧ blend m l r = r ∧ nth r s0 = some v0 ∧ nth r s1 = some v1 ∧ nth r s2 = some v2 ∧ nth r s3 = some v3 ∧ R v0 v1 v2 v3 w'
theorem Forgot.at {m : List Mk} {l : List Value} {dl : List Deferred} {s0 s1 s2 s3 : Nat} {R : Value → Value → Value → Value → World → Prop} {a' : Act} {w' : World} (r : List Value) (v0 v1 v2 v3 : Value) (ha : a' = ⟨r.toArray, dl⟩) (hb : blend m l r = r) (h0 : nth r s0 = some v0) (h1 : nth r s1 = some v1) (h2 : nth r s2 = some v2) (h3 : nth r s3 = some v3) (rel : R v0 v1 v2 v3 w') : Forgot m l dl s0 s1 s2 s3 R a' w' := ⟨r, v0, v1, v2, v3, ha, hb, h0, h1, h2, h3, rel⟩
theorem Forgot.spread {m : List Mk} {l : List Value} {dl : List Deferred} {s0 s1 s2 s3 : Nat} {R : Value → Value → Value → Value → World → Prop} {a' : Act} {w' : World} (hp : placed s0 s1 s2 s3 0 m = true) (h : Forgot m l dl s0 s1 s2 s3 R a' w') : ∃ f v0 v1 v2 v3, R v0 v1 v2 v3 w' ∧ a' = ⟨(spread f v0 v1 v2 v3 m l).toArray, dl⟩ := by
  obtain ⟨r, v0, v1, v2, v3, rfl, hb, h0, h1, h2, h3, hR⟩ := h
  rw [nth_get] at h0 h1 h2 h3
  injection h0 with h0
  injection h1 with h1
  injection h2 with h2
  injection h3 with h3
  refine ⟨fun k => r.getD k undef, v0, v1, v2, v3, hR, ?_⟩
  have e := blend_spread (fun k => r.getD k undef) s0 s1 s2 s3 m l r 0 hp (fun k => by rw [Nat.zero_add])
  rw [h0, h1, h2, h3] at e
  rw [← e, hb]
theorem blend_self : ∀ (m : List Mk) (l : List Value), m.length = l.length → blend m l l = l
  | [], [], _ => rfl
  | x :: m, v :: l, h => by
    have := blend_self m l (by simpa using h)
    cases x <;> (show v :: _ = v :: _; rw [this])
theorem wp_cutm {P : Program} {s : Code} {K : Act → World → Prop} {Q' : Exit → Act → World → Prop} {l : List Value} {dl : List Deferred} {w : World} (m : List Mk) (s0 s1 s2 s3 : Nat) (hp : placed s0 s1 s2 s3 0 m = true) (R : Value → Value → Value → Value → World → Prop)
    (rest : ∀ (f : Nat → Value) v0 v1 v2 v3 w', R v0 v1 v2 v3 w' → K ⟨(spread f v0 v1 v2 v3 m l).toArray, dl⟩ w')
    (first : ∀ (J K' : Act → World → Prop), (∀ a' w', Forgot m l dl s0 s1 s2 s3 R a' w' → J a' w') → (∀ a' w', Met J a' w' → K' a' w') → s.wp P (Exit.then K' Q') ⟨l.toArray, dl⟩ w) : s.wp P (Exit.then K Q') ⟨l.toArray, dl⟩ w := by
  refine wp_cut (Forgot m l dl s0 s1 s2 s3 R) ?_ first
  intro a' w' h
  obtain ⟨f, v0, v1, v2, v3, hR, rfl⟩ := h.spread hp
  exact rest f v0 v1 v2 v3 w' hR
/-- A round has come to its end. -/
def Rounded (m : List Mk) (l : List Value) (dl : List Deferred) (s0 s1 s2 s3 : Nat) (R : Value → Value → Value → Value → World → Prop) (mu : Value → Value → Value → Value → World → Nat) (n : Nat) (a' : Act) (w' : World) : Prop :=
  Forgot m l dl s0 s1 s2 s3 (fun v0 v1 v2 v3 w => R v0 v1 v2 v3 w ∧ mu v0 v1 v2 v3 w < n) a' w'
theorem Rounded.at {m : List Mk} {l : List Value} {dl : List Deferred} {s0 s1 s2 s3 : Nat} {R : Value → Value → Value → Value → World → Prop} {mu : Value → Value → Value → Value → World → Nat} {n : Nat} {a' : Act} {w' : World} (r : List Value) (v0 v1 v2 v3 : Value) (ha : a' = ⟨r.toArray, dl⟩) (hb : blend m l r = r) (h0 : nth r s0 = some v0) (h1 : nth r s1 = some v1) (h2 : nth r s2 = some v2) (h3 : nth r s3 = some v3) (rel : R v0 v1 v2 v3 w') (measure : mu v0 v1 v2 v3 w' < n) : Rounded m l dl s0 s1 s2 s3 R mu n a' w' := ⟨r, v0, v1, v2, v3, ha, hb, h0, h1, h2, h3, rel, measure⟩
theorem wp_loopm {P : Program} {c : Code} {Q' : Exit → Act → World → Prop} {l : List Value} {dl : List Deferred} {w : World} (m : List Mk) (s0 s1 s2 s3 : Nat) (hp : placed s0 s1 s2 s3 0 m = true) (hl : m.length = l.length) (R : Value → Value → Value → Value → World → Prop) (mu : Value → Value → Value → Value → World → Nat)
    (v0 v1 v2 v3 : Value) (h0 : nth l s0 = some v0) (h1 : nth l s1 = some v1) (h2 : nth l s2 = some v2) (h3 : nth l s3 = some v3)
    (start : R v0 v1 v2 v3 w)
    (round : ∀ (f : Nat → Value) v0 v1 v2 v3 wr, R v0 v1 v2 v3 wr → c.wp P (Exit.then (Rounded m l dl s0 s1 s2 s3 R mu (mu v0 v1 v2 v3 wr)) Q') ⟨(spread f v0 v1 v2 v3 m l).toArray, dl⟩ wr) : (Code.loop c).wp P Q' ⟨l.toArray, dl⟩ w := by
  refine wp_loop (Forgot m l dl s0 s1 s2 s3 R) (fun a w => mu (a.tmps.getD s0 undef) (a.tmps.getD s1 undef) (a.tmps.getD s2 undef) (a.tmps.getD s3 undef) w) ⟨l, v0, v1, v2, v3, rfl, blend_self m l hl, h0, h1, h2, h3, start⟩ ?_
  have hg : ∀ (r : List Value) k, r.toArray.getD k undef = r.getD k undef := fun r k => by simp [Array.getD_eq_getD_getElem?]
  have hn : ∀ {r : List Value} {k : Nat} {v : Value}, nth r k = some v → r.getD k undef = v := fun {r k v} h => by rw [nth_get] at h; injection h
  rintro a' wr ⟨r, u0, u1, u2, u3, rfl, hb, e0, e1, e2, e3, hR⟩
  have e := blend_spread (fun k => r.getD k undef) s0 s1 s2 s3 m l r 0 hp (fun k => by rw [Nat.zero_add])
  have hr := round (fun k => r.getD k undef) u0 u1 u2 u3 wr hR
  rw [hn e0, hn e1, hn e2, hn e3, hb] at e
  rw [← e] at hr
  refine wp_mono hr ?_
  intro e a2 w2 hq
  cases e with
  | normal =>
    obtain ⟨r2, x0, x1, x2, x3, rfl, hb2, f0, f1, f2, f3, hR2, hlt⟩ := hq
    refine ⟨⟨r2, x0, x1, x2, x3, rfl, hb2, f0, f1, f2, f3, hR2⟩, ?_⟩
    show mu (r2.toArray.getD s0 undef) _ _ _ _ < mu (r.toArray.getD s0 undef) _ _ _ _
    rw [hg, hg, hg, hg, hg, hg, hg, hg, hn f0, hn f1, hn f2, hn f3, hn e0, hn e1, hn e2, hn e3]
    exact hlt
  | exit id => exact hq
  | goto l => exact hq
  | ret => exact hq
  | panic ch => exact hq
  | outgrown => exact hq




/-- All blocks but the reader's are as they were. -/
structure RdK (r : Nat) (w w' : World) : Prop where
  bel : Below r w w'
  up : ∀ k, k < w.heap.size → k ≠ r → w'.heap[k]? = w.heap[k]?
theorem RdK.refl (r : Nat) (w : World) : RdK r w w := ⟨Below.refl _ _, fun _ _ _ => rfl⟩
theorem RdK.size {r : Nat} {w w' : World} (h : RdK r w w') : w.heap.size ≤ w'.heap.size := h.bel.size
theorem RdK.trans {r : Nat} {a b c : World} (h : RdK r a b) (k : RdK r b c) : RdK r a c := ⟨h.bel.trans k.bel, fun i hi hr => (k.up i (Nat.lt_of_lt_of_le hi h.size) hr).trans (h.up i hi hr)⟩
theorem RdK.of {r : Nat} {w w' : World} (hr : r ≤ w.heap.size) (h : Below w.heap.size w w') : RdK r w w' := ⟨h.mono hr, fun k hk _ => h.block k hk⟩
theorem RdK.set (r i : Nat) (w : World) (u : Value) : RdK r w (w.setCell ⟨r, i, none⟩ u) := ⟨(Below.refl r w).setCell (p := ⟨r, i, none⟩) (Nat.le_refl _) u, fun k _ hk => Below.heap_setCell w ⟨r, i, none⟩ u k hk⟩
theorem RdK.block {r k : Nat} {w w' : World} {o : Obj} (h : RdK r w w') (hk : w.heap[k]? = some o) (hr : k ≠ r) : w'.heap[k]? = some o := (h.up k (Array.getElem?_eq_some_iff.1 hk).1 hr).trans hk
/-- Where the reader stands: l is what is left. -/
def RdAt (w : World) (r : Nat) (s : ByteArray) (l : List UInt8) : Prop := ∃ p : Nat, p + l.length = s.size ∧ s.data.toList.drop p = l ∧ w.heap[r]? = some (.cells #[.string s, .int .i64 (p : Int)] 55 (0, 0))
theorem RdAt.lt {w : World} {r : Nat} {s : ByteArray} {l : List UInt8} (h : RdAt w r s l) : r < w.heap.size := by obtain ⟨p, _, _, h⟩ := h; exact (Array.getElem?_eq_some_iff.1 h).1
theorem RdAt.below {w w' : World} {r : Nat} {s : ByteArray} {l : List UInt8} (h : RdAt w r s l) (hb : Below w.heap.size w w') : RdAt w' r s l := by
  obtain ⟨p, h1, h2, h3⟩ := h
  exact ⟨p, h1, h2, (hb.block r (Array.getElem?_eq_some_iff.1 h3).1).trans h3⟩
theorem RdK.same {r : Nat} {w w' : World} {s : ByteArray} {l : List UInt8} {T : TypeId} (h : RdK r w w') (hr : RdAt w r s l) (hT : 55 ≠ T) : Same T w w' := fun k c fr hk => by
  obtain ⟨p, _, _, h3⟩ := hr
  refine h.block hk (fun e => ?_)
  subst e
  rw [h3] at hk
  injection hk with hk
  injection hk with _ h2 _
  exact hT h2
/-- What a reading comes to: a value and what is left; or it stops, so many bytes being left. -/
def Rd {α : Type} (r : Nat) (s : ByteArray) (w : World) (res : Except Nat (α × List UInt8)) (f : α → Value → World → Prop) (e : Ending) (w' : World) : Prop :=
  RdK r w w' ∧ match res with
    | .ok (a, l) => ∃ v, e = .returned v ∧ f a v w' ∧ RdAt w' r s l
    | .error n => n ≤ s.size ∧ e = .panicked [{ v := .iface 51 (.agg #[.int .i64 ((s.size - n : Nat) : Int)]), recovered := false }]
/-- The next byte, if it is one of these. -/
def pNext (t l : List UInt8) : UInt8 × List UInt8 := match l with | [] => (0, []) | x :: r => if x ∈ t then (x, r) else (0, x :: r)
theorem idx_in : ∀ (t : List UInt8) (x : UInt8), (0 ≤ Lib.indexByte t x) ↔ x ∈ t
  | [], x => by simp [Lib.indexByte]
  | b :: l, x => by
    have ih := idx_in l x
    have hg := Lib.indexByte_ge l x
    unfold Lib.indexByte
    by_cases hb : b = x
    · subst hb; simp
    · rw [if_neg (by simpa using hb)]
      have hx : x ∈ b :: l ↔ x ∈ l := by simp [Ne.symm hb]
      rw [hx, ← ih]
      split
      · rename_i h1
        have h1 : Lib.indexByte l x = -1 := by simpa using h1
        omega
      · rename_i h1
        have h1 : Lib.indexByte l x ≠ -1 := by simpa using h1
        omega
theorem rd_cons {s : List UInt8} {p : Nat} {x : UInt8} {l : List UInt8} (h : s.drop p = x :: l) : s[p]? = some x ∧ s.drop (p + 1) = l := by
  constructor
  · have := congrArg (fun z => z[0]?) h
    simpa using this
  · rw [← List.drop_drop, h]; rfl
theorem rd_byte {s : ByteArray} {p : Nat} {x : UInt8} (h : s.data.toList[p]? = some x) : ∃ hp : p < s.size, s[p]'hp = x := by
  have hp : p < s.size := by have := (List.getElem?_eq_some_iff.1 h).1; rw [Array.length_toList] at this; exact this
  refine ⟨hp, ?_⟩
  have e := (List.getElem?_eq_some_iff.1 h).2
  rw [← e]; simp; rfl
theorem pNext_hit {t l : List UInt8} {x : UInt8} (h : x ∈ t) : pNext t (x :: l) = (x, l) := by show (if x ∈ t then _ else _) = _; rw [if_pos h]
theorem pNext_miss {t l : List UInt8} {x : UInt8} (h : ¬ x ∈ t) : pNext t (x :: l) = (0, x :: l) := by show (if x ∈ t then _ else _) = _; rw [if_neg h]
set_option maxRecDepth 100000 in
set_option maxHeartbeats 4000000 in
theorem next_any (t s : ByteArray) (hs : Sm s) (r : Nat) (l : List UInt8) (w : World) (h : RdAt w r s l) :
    Calls Tryd.prog 25 #[.pointer (some ⟨r, 0, none⟩), .string t] w fun e w' => e = .returned (.int .u8 ((pNext t.data.toList l).1.toNat : Int)) ∧ RdK r w w' ∧ RdAt w' r s (pNext t.data.toList l).2 := by
  obtain ⟨p, h1, h2, h3⟩ := h
  unfold Sm at hs
  have H3 := Lib.hid h3
  have x0 := block_cell h3 0
  have x1 := block_cell h3 1
  cases l with
  | nil =>
    have hd : decide ((p : Int) < (s.size : Int)) = false := decide_eq_false (by simp at h1; omega)
    have HA : Hid (∀ n, RdAt (w.drewN n) r s []) := fun n => ⟨p, h1, h2, h3⟩
    have HK : Hid (∀ n, RdK r w (w.drewN n)) := fun n => ⟨Go.below_drewN (Below.refl _ _) n, fun _ _ _ => rfl⟩
    have HP : Hid (p = s.size) := by simp at h1; exact h1
    clear h1 h2 h3 hd
    go_enter Tryd.func25, Tryd.ntmps25
    go_wp2_with fail
    have hd : decide ((p : Int) < (s.size : Int)) = false := decide_eq_false (by have := HP.out; omega)
    have hd' : decide (p < s.size) = false := decide_eq_false (by have := HP.out; omega)
    go_quiet (fail)
    go_wp2_with fail
    go_ret
    exact ⟨rfl, HK.out _, HA.out _⟩
  | cons x l =>
    obtain ⟨hpx, hpl⟩ := rd_cons h2
    obtain ⟨hp, hbx⟩ := rd_byte hpx
    have hlt : (p : Int) < (s.size : Int) := Int.ofNat_lt.2 hp
    have hp0 : (0 : Int) ≤ (p : Int) := Int.natCast_nonneg p
    have hd : decide ((p : Int) < (s.size : Int)) = true := decide_eq_true hlt
    have hidx : ∀ n, Calls Tryd.prog 38 #[.string t, .int .u8 (x.toNat : Int)] (w.drewN n) fun e w' => e = .returned (.int .i64 (Lib.indexByte t.data.toList x)) ∧ ∃ n, w' = w.drewN n := fun n => by
      have h := tx_idxByte t (x.toNat : Int) (w.drewN n)
      rw [show (x.toNat : Int).toNat.toUInt8 = x by simp] at h
      exact h.mono fun e w' ⟨h1, h2⟩ => ⟨h1, n, h2.symm⟩
    have HIX := Lib.hid (idx_in t.data.toList x)
    have hpb : p ≤ 1048576 := by omega
    have hps : p + (l.length + 1) = s.size := by simpa using h1
    generalize Lib.indexByte t.data.toList x = ix at *
    have H2 := Lib.hid h2
    clear h1 h2 hpx
    by_cases hm : x ∈ t.data.toList
    · have hix : decide ((0 : Int) ≤ ix) = true := decide_eq_true (HIX.out.2 hm)
      have hix2 : (0 : Int) ≤ ix := HIX.out.2 hm
      rw [pNext_hit hm]
      have HK : Hid (∀ n, RdK r w ((w.drewN n).setCell ⟨r, 1, none⟩ (.int .i64 ((p : Int) + 1)))) := fun n => (RdK.trans (b := w.drewN n) ⟨Go.below_drewN (Below.refl _ _) n, fun _ _ _ => rfl⟩ (RdK.set r 1 _ _))
      have HA : Hid (∀ n, ((w.drewN n).setCell ⟨r, 1, none⟩ (.int .i64 ((p : Int) + 1))).heap[r]? = some (.cells #[.string s, .int .i64 ((p : Int) + 1)] 55 (0, 0))) := fun n => setCell_block (w := w.drewN n) h3 1 _
      have f1 := block_free h3 1
      have hw1 : IntKind.i64.wrap ((p : Int) + 1) = (p : Int) + 1 := IntWalk.i64_in _ (by omega)
      have HP : Hid (p + 1 + l.length = s.size ∧ s.data.toList.drop (p + 1) = l) := ⟨by omega, hpl⟩
      clear hm HIX h3 hpl hps
      go_enter Tryd.func25, Tryd.ntmps25
      go_wp2_with fail
      go_quiet (exact hidx _)
      go_upto_region 3 with fail
      have ha := HA.out nq
      have HK2 := Lib.hid (HK.out nq)
      clear HK HA
      generalize (w.drewN nq).setCell ⟨r, 1, none⟩ (.int .i64 ((p : Int) + 1)) = w2 at *
      clear x0 x1 f1
      have x0 := block_cell ha 0
      have x1 := block_cell ha 1
      have HA2 := Lib.hid ha
      have hw3 : IntKind.i64.wrap ((p : Int) + 1 - 1) = (p : Int) := by rw [show (p : Int) + 1 - 1 = (p : Int) by omega]; exact IntWalk.i64_in _ (by omega)
      clear ha
      go_quiet (fail)
      go_wp2_with fail
      go_ret
      exact ⟨rfl, HK2.out.trans ⟨Go.below_drewN (Below.refl _ _) _, fun _ _ _ => rfl⟩, p + 1, HP.out.1, HP.out.2, HA2.out⟩
    · have hix : decide ((0 : Int) ≤ ix) = false := decide_eq_false (fun h => hm (HIX.out.1 h))
      rw [pNext_miss hm]
      have HA : Hid (∀ n, RdAt (w.drewN n) r s (x :: l)) := fun n => ⟨p, by simpa using hps, H2.out, h3⟩
      have HK : Hid (∀ n, RdK r w (w.drewN n)) := fun n => ⟨Go.below_drewN (Below.refl _ _) n, fun _ _ _ => rfl⟩
      clear h3 hpl hps hix
      go_enter Tryd.func25, Tryd.ntmps25
      go_wp2_with fail
      have hix : decide ((0 : Int) ≤ ix) = false := decide_eq_false (fun h => hm (HIX.out.1 h))
      go_quiet (exact hidx _)
      go_wp2_with fail
      go_ret
      exact ⟨rfl, HK.out _, HA.out _⟩
end Go.Proofs.YtakidgndipnciaaDoor
