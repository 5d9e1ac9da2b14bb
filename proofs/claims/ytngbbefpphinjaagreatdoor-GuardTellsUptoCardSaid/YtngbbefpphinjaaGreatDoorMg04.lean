/- Parts: ValB, RecA, RecB, GrA, GrB. -/
import Derived.Test.YtngbbefpphinjaaGreatDoorMg03
import Derived.Test.YtngbbefpphinjaaGreatDoorMg01
import Derived.Lib.Bytealg
import Derived.StillTailTactics
import Derived.Sort.Walk0
/- Contracts: what value.Check, record.prop and record.Check of the program answer, for every input that is not too long. -/
namespace Go.Proofs.YtngbbefpphinjaaGreatDoor
open Go.RowKit
def strC (c : UInt8) : Bool := decide ((c.toNat : Int) < 32) || decide (126 < (c.toNat : Int))
theorem check1 (c : UInt8) (w : World) :
 Calls Tryz.prog 148 #[.int .u8 c.toNat] w fun e w' => e = .returned (.bool (strC c)) /\ w = w' := by
 unfold strC
 go_enter Tryz.func148, Tryz.ntmps148
 go_wp2
 all_goals go_ret
 all_goals exact ⟨rfl, rfl⟩
def valLo (ty : Int) : Int := if ty = 1 then -1000000 else 0
def valHi (ty : Int) : Int := if ty = 1 then 1000000 else if ty = 2 then 1 else 0
def valE (v : Val) : Int :=
 if v.ty = 1 \/ v.ty = 2 \/ v.ty = 3 then
   if v.n < valLo v.ty \/ valHi v.ty < v.n then 1
   else if v.ty = 3 /\ 20 < v.s.size then 4
   else if v.s.data.toList.any strC = true \/ (v.ty ≠ 3 /\ v.s.toList.isEmpty = false) then 2
   else 0
 else 8
theorem strange_any (ty n : Int) (s : ByteArray) (w W0 : World) (hW : W0 = w.alloc (.cells #[.int .i64 ty, .int .i64 n, .string s] 31)) (hs : Sm s) :
 Calls Tryz.prog 147 #[.slice (some ⟨w.heap.size + 1, 0, none⟩) s.size (grownCap W0 s.size 0 5), .func (.func 148) #[] #[]] (Lib.bytesWorld W0 5 s)
  fun e w' => e = .returned (.bool (s.data.toList.any strC)) /\ Below w.heap.size w w' /\ w'.cell? ⟨w.heap.size, 0, none⟩ = some (.int .i64 ty) /\ w'.cell? ⟨w.heap.size, 1, none⟩ = some (.int .i64 n) /\
   w'.cell? ⟨w.heap.size, 2, none⟩ = some (.string s) := by
 obtain ⟨hsl, hb⟩ := bytes_sl W0 s hs
 have hsz : W0.heap.size = w.heap.size + 1 := by subst hW; simp
 rw [hsz] at hsl
 refine (has_byte 148 #[] (by intro args w; kernel_rfl) strC s.data.toList _ _ hsl (fun x u wx _ hu => by subst hu; exact (check1 x wx).mono fun e w' ⟨h1, h2⟩ => ⟨h1, h2 ▸ Below.refl _ _⟩)).mono ?_
 rintro e w' ⟨he, hb2⟩
 have hb3 : Below W0.heap.size W0 w' := hb.trans (hb2.mono hb.size)
 refine ⟨he, ?_, cell_below hb3 ?_, cell_below hb3 ?_, cell_below hb3 ?_⟩
 ·refine Below.trans (b := W0) (by subst hW; exact (Below.refl _ _).alloc (Nat.le_refl _) _) (hb3.mono (by subst hW; simp))
 all_goals subst hW; rw [World.cell?_alloc_at _ _ _ _ rfl]; rfl
section
variable (ty n : Int) (s : ByteArray) (w : World)
theorem check_bad (h : ¬ (ty = 1 \/ ty = 2 \/ ty = 3)) :
 Calls Tryz.prog 91 #[.agg #[.int .i64 ty, .int .i64 n, .string s]] w fun e w' => e = .returned (errV (valE ⟨ty, n, s⟩)) /\ Below w.heap.size w w' := by
 have HE : Hid (errV (valE ⟨ty, n, s⟩) = .iface 122 (.int .i64 8)) := by unfold valE; rw [if_neg h]; rfl
 have h1 : (ty == 1) = false := by simp; omega
 have h2 : (ty == 2) = false := by simp; omega
 have h3 : (ty == 3) = false := by simp; omega
 clear h
 go_enter Tryz.func91, Tryz.ntmps91
 go_wp2_with fail
 go_ret
 exact ⟨by rw [HE.out]; rfl, (Below.refl _ _).alloc (Nat.le_refl _) _⟩
set_option maxHeartbeats 1000000 in
theorem check_int (hs : Sm s) :
 Calls Tryz.prog 91 #[.agg #[.int .i64 1, .int .i64 n, .string s]] w fun e w' => e = .returned (errV (valE ⟨1, n, s⟩)) /\ Below w.heap.size w w' := by
 have hcv := fun wx => Lib.run_convert_string_bytes (P := Tryz.prog) wx 9 228 5 s Tryz.underlying9 Tryz.underlying228 Tryz.underlying5
 have hcall := strange_any 1 n s w _ rfl hs
 have hs' : s.size <= 1048576 := hs
 clear hs
 have HF : Hid (valE ⟨1, n, s⟩ = if n < -1000000 \/ 1000000 < n then 1 else if s.data.toList.any strC = true \/ s.toList.isEmpty = false then 2 else 0) := by
  unfold valE valLo valHi Hid; simp
 generalize s.data.toList.any strC = B at hcall HF
 by_cases h1 : n < -1000000
 ·have HE : Hid (errV (valE ⟨1, n, s⟩) = .iface 122 (.int .i64 1)) := by rw [HF.out]; rw [if_pos (Or.inl h1)]; rfl
  clear HF
  go_enter Tryz.func91, Tryz.ntmps91
  go_wp2_with (go_at_call 147; refine hcall.mono ?_; rintro e w' ⟨rfl, hb, c0, c1, c2⟩)
  go_ret
  exact ⟨by rw [HE.out]; rfl, hb⟩
 by_cases h2 : 1000000 < n
 ·have HE : Hid (errV (valE ⟨1, n, s⟩) = .iface 122 (.int .i64 1)) := by rw [HF.out]; rw [if_pos (Or.inr h2)]; rfl
  clear HF
  go_enter Tryz.func91, Tryz.ntmps91
  go_wp2_with (go_at_call 147; refine hcall.mono ?_; rintro e w' ⟨rfl, hb, c0, c1, c2⟩)
  go_ret
  exact ⟨by rw [HE.out]; rfl, hb⟩
 have h1' : -1000000 <= n := by omega
 have h2' : n <= 1000000 := by omega
 have h1b : decide (n < -1000000) = false := by simp; omega
 have h2b : decide (1000000 < n) = false := by simp; omega
 cases B with
 | true =>
  have HE : Hid (errV (valE ⟨1, n, s⟩) = .iface 122 (.int .i64 2)) := by rw [HF.out]; rw [if_neg (by omega), if_pos (Or.inl rfl)]; rfl
  clear HF
  go_enter Tryz.func91, Tryz.ntmps91
  go_wp2_with (go_at_call 147; refine hcall.mono ?_; rintro e w' ⟨rfl, hb, c0, c1, c2⟩)
  go_ret
  exact ⟨by rw [HE.out]; rfl, hb⟩
 | false =>
  cases h0 : s.toList.isEmpty with
  | true =>
   have HE : Hid (errV (valE ⟨1, n, s⟩) = .nilIface) := by rw [HF.out]; rw [h0, if_neg (by omega), if_neg (by simp)]; rfl
   clear HF
   go_enter Tryz.func91, Tryz.ntmps91
   go_wp2_with (go_at_call 147; refine hcall.mono ?_; rintro e w' ⟨rfl, hb, c0, c1, c2⟩)
   go_ret
   exact ⟨by rw [HE.out]; rfl, hb⟩
  | false =>
   have HE : Hid (errV (valE ⟨1, n, s⟩) = .iface 122 (.int .i64 2)) := by rw [HF.out]; rw [h0, if_neg (by omega), if_pos (by simp)]; rfl
   clear HF
   go_enter Tryz.func91, Tryz.ntmps91
   go_wp2_with (go_at_call 147; refine hcall.mono ?_; rintro e w' ⟨rfl, hb, c0, c1, c2⟩)
   go_ret
   exact ⟨by rw [HE.out]; rfl, hb⟩
set_option maxHeartbeats 1000000 in
theorem check_bool (hs : Sm s) :
 Calls Tryz.prog 91 #[.agg #[.int .i64 2, .int .i64 n, .string s]] w fun e w' => e = .returned (errV (valE ⟨2, n, s⟩)) /\ Below w.heap.size w w' := by
 have hcv := fun wx => Lib.run_convert_string_bytes (P := Tryz.prog) wx 9 228 5 s Tryz.underlying9 Tryz.underlying228 Tryz.underlying5
 have hcall := strange_any 2 n s w _ rfl hs
 have hs' : s.size <= 1048576 := hs
 clear hs
 have HF : Hid (valE ⟨2, n, s⟩ = if n < 0 \/ 1 < n then 1 else if s.data.toList.any strC = true \/ s.toList.isEmpty = false then 2 else 0) := by
  unfold valE valLo valHi Hid; simp
 generalize s.data.toList.any strC = B at hcall HF
 by_cases h1 : n < 0
 ·have HE : Hid (errV (valE ⟨2, n, s⟩) = .iface 122 (.int .i64 1)) := by rw [HF.out]; rw [if_pos (Or.inl h1)]; rfl
  clear HF
  go_enter Tryz.func91, Tryz.ntmps91
  go_wp2_with (go_at_call 147; refine hcall.mono ?_; rintro e w' ⟨rfl, hb, c0, c1, c2⟩)
  go_ret
  exact ⟨by rw [HE.out]; rfl, hb⟩
 by_cases h2 : 1 < n
 ·have HE : Hid (errV (valE ⟨2, n, s⟩) = .iface 122 (.int .i64 1)) := by rw [HF.out]; rw [if_pos (Or.inr h2)]; rfl
  clear HF
  go_enter Tryz.func91, Tryz.ntmps91
  go_wp2_with (go_at_call 147; refine hcall.mono ?_; rintro e w' ⟨rfl, hb, c0, c1, c2⟩)
  go_ret
  exact ⟨by rw [HE.out]; rfl, hb⟩
 have h1' : 0 <= n := by omega
 have h2' : n <= 1 := by omega
 have h1b : decide (n < 0) = false := by simp; omega
 have h2b : decide (1 < n) = false := by simp; omega
 cases B with
 | true =>
  have HE : Hid (errV (valE ⟨2, n, s⟩) = .iface 122 (.int .i64 2)) := by rw [HF.out]; rw [if_neg (by omega), if_pos (Or.inl rfl)]; rfl
  clear HF
  go_enter Tryz.func91, Tryz.ntmps91
  go_wp2_with (go_at_call 147; refine hcall.mono ?_; rintro e w' ⟨rfl, hb, c0, c1, c2⟩)
  go_ret
  exact ⟨by rw [HE.out]; rfl, hb⟩
 | false =>
  cases h0 : s.toList.isEmpty with
  | true =>
   have HE : Hid (errV (valE ⟨2, n, s⟩) = .nilIface) := by rw [HF.out]; rw [h0, if_neg (by omega), if_neg (by simp)]; rfl
   clear HF
   go_enter Tryz.func91, Tryz.ntmps91
   go_wp2_with (go_at_call 147; refine hcall.mono ?_; rintro e w' ⟨rfl, hb, c0, c1, c2⟩)
   go_ret
   exact ⟨by rw [HE.out]; rfl, hb⟩
  | false =>
   have HE : Hid (errV (valE ⟨2, n, s⟩) = .iface 122 (.int .i64 2)) := by rw [HF.out]; rw [h0, if_neg (by omega), if_pos (by simp)]; rfl
   clear HF
   go_enter Tryz.func91, Tryz.ntmps91
   go_wp2_with (go_at_call 147; refine hcall.mono ?_; rintro e w' ⟨rfl, hb, c0, c1, c2⟩)
   go_ret
   exact ⟨by rw [HE.out]; rfl, hb⟩
set_option maxHeartbeats 1000000 in
theorem check_text (hs : Sm s) :
 Calls Tryz.prog 91 #[.agg #[.int .i64 3, .int .i64 n, .string s]] w fun e w' => e = .returned (errV (valE ⟨3, n, s⟩)) /\ Below w.heap.size w w' := by
 have hcv := fun wx => Lib.run_convert_string_bytes (P := Tryz.prog) wx 9 228 5 s Tryz.underlying9 Tryz.underlying228 Tryz.underlying5
 have hcall := strange_any 3 n s w _ rfl hs
 have hs' : s.size <= 1048576 := hs
 clear hs
 have HF : Hid (valE ⟨3, n, s⟩ = if n < 0 \/ 0 < n then 1 else if 20 < s.size then 4 else if s.data.toList.any strC = true then 2 else 0) := by
  unfold valE valLo valHi Hid; simp
 generalize s.data.toList.any strC = B at hcall HF
 by_cases h1 : n < 0
 ·have HE : Hid (errV (valE ⟨3, n, s⟩) = .iface 122 (.int .i64 1)) := by rw [HF.out]; rw [if_pos (Or.inl h1)]; rfl
  clear HF
  go_enter Tryz.func91, Tryz.ntmps91
  go_wp2_with (go_at_call 147; refine hcall.mono ?_; rintro e w' ⟨rfl, hb, c0, c1, c2⟩)
  go_ret
  exact ⟨by rw [HE.out]; rfl, hb⟩
 by_cases h2 : 0 < n
 ·have HE : Hid (errV (valE ⟨3, n, s⟩) = .iface 122 (.int .i64 1)) := by rw [HF.out]; rw [if_pos (Or.inr h2)]; rfl
  clear HF
  go_enter Tryz.func91, Tryz.ntmps91
  go_wp2_with (go_at_call 147; refine hcall.mono ?_; rintro e w' ⟨rfl, hb, c0, c1, c2⟩)
  go_ret
  exact ⟨by rw [HE.out]; rfl, hb⟩
 have h1' : 0 <= n := by omega
 have h2' : n <= 0 := by omega
 have h1b : decide (n < 0) = false := by simp; omega
 have h2b : decide (0 < n) = false := by simp; omega
 by_cases h3 : 20 < s.size
 ·have h3' : (20 : Int) < (s.size : Int) := by omega
  have HE : Hid (errV (valE ⟨3, n, s⟩) = .iface 122 (.int .i64 4)) := by rw [HF.out]; rw [if_neg (by omega), if_pos h3]; rfl
  clear HF
  go_enter Tryz.func91, Tryz.ntmps91
  go_wp2_with (go_at_call 147; refine hcall.mono ?_; rintro e w' ⟨rfl, hb, c0, c1, c2⟩)
  go_ret
  exact ⟨by rw [HE.out]; rfl, hb⟩
 have h3' : decide ((20 : Int) < (s.size : Int)) = false := by simp; omega
 have h3'' : (s.size : Int) <= 20 := by omega
 cases B with
 | true =>
  have HE : Hid (errV (valE ⟨3, n, s⟩) = .iface 122 (.int .i64 2)) := by rw [HF.out]; rw [if_neg (by omega), if_neg h3]; rfl
  clear HF
  go_enter Tryz.func91, Tryz.ntmps91
  go_wp2_with (go_at_call 147; refine hcall.mono ?_; rintro e w' ⟨rfl, hb, c0, c1, c2⟩)
  go_ret
  exact ⟨by rw [HE.out]; rfl, hb⟩
 | false =>
  have HE : Hid (errV (valE ⟨3, n, s⟩) = .nilIface) := by rw [HF.out]; rw [if_neg (by omega), if_neg h3]; rfl
  clear HF
  go_enter Tryz.func91, Tryz.ntmps91
  go_wp2_with (go_at_call 147; refine hcall.mono ?_; rintro e w' ⟨rfl, hb, c0, c1, c2⟩)
  go_ret
  exact ⟨by rw [HE.out]; rfl, hb⟩
end
theorem check_any (v : Val) (hv : v.ok) (w : World) :
 Calls Tryz.prog 91 #[.agg #[.int .i64 v.ty, .int .i64 v.n, .string v.s]] w fun e w' => e = .returned (errV (valE v)) /\ Below w.heap.size w w' := by
 obtain ⟨ty, n, s⟩ := v
 obtain ⟨_, _, hs⟩ := hv
 show Calls Tryz.prog 91 #[.agg #[.int .i64 ty, .int .i64 n, .string s]] w _
 by_cases h1 : ty = 1
 ·subst h1; exact check_int n s w hs
 by_cases h2 : ty = 2
 ·subst h2; exact check_bool n s w hs
 by_cases h3 : ty = 3
 ·subst h3; exact check_text n s w hs
 exact check_bad ty n s w (by rintro (h | h | h) <;> contradiction)
def firstE {D : Type} (f : D -> Int) : List D -> Int
 | [] => 0
 | d :: r => if f d = 0 then firstE f r else f d
theorem firstE_hit {D : Type} {f : D -> Int} : ∀ {l : List D} {k : Nat} {d : D}, (∀ j x, j < k -> l[j]? = some x -> f x = 0) -> l[k]? = some d -> f d ≠ 0 -> firstE f l = f d
 | a :: r, 0, d, _, h2, h3 => by
  simp at h2
  subst h2
  simp [firstE, h3]
 | a :: r, k + 1, d, h1, h2, h3 => by
  have h0 : f a = 0 := h1 0 a (by omega) rfl
  simp only [firstE, h0, if_true]
  exact firstE_hit (l := r) (k := k) (fun j x hj hx => h1 (j + 1) x (by omega) (by simpa using hx)) (by simpa using h2) h3
theorem firstE_none {D : Type} {f : D -> Int} : ∀ {l : List D}, (∀ j x, j < l.length -> l[j]? = some x -> f x = 0) -> firstE f l = 0
 | [], _ => rfl
 | a :: r, h1 => by
  have h0 : f a = 0 := h1 0 a (by simp) rfl
  simp only [firstE, h0, if_true]
  exact firstE_none (l := r) (fun j x hj hx => h1 (j + 1) x (by simpa using hj) (by simpa using hx))
theorem zero_step {D : Type} {f : D -> Int} {l : List D} {k : Nat} {d : D} (h1 : ∀ j x, j < k -> l[j]? = some x -> f x = 0) (h2 : l[k]? = some d) (h3 : f d = 0) : ∀ j x, j < k + 1 -> l[j]? = some x -> f x = 0 := by
 intro j x hj hx
 by_cases e : j = k
 ·subst e
  have := h2.symm.trans hx
  cases this
  exact h3
 exact h1 j x (by omega) hx
def chain {D : Type} (R : D -> D -> Bool) : List D -> Bool
 | a :: b :: r => R a b && chain R (b :: r)
 | _ => true
theorem chain_iff {D : Type} {R : D -> D -> Bool} : ∀ {l : List D}, chain R l = true ↔ ∀ i a b, l[i]? = some a -> l[i + 1]? = some b -> R a b = true
 | [] => by simp [chain]
 | [a] => by simp [chain]
 | a :: b :: r => by
  simp only [chain, Bool.and_eq_true]
  rw [chain_iff (l := b :: r)]
  constructor
  ·rintro ⟨h1, h2⟩ i x y hx hy
   match i, hx, hy with
   | 0, hx, hy => simp at hx hy; subst hx; subst hy; exact h1
   | i + 1, hx, hy => exact h2 i x y (by simpa using hx) (by simpa using hy)
  intro h
  exact ⟨h 0 a b rfl rfl, fun i x y hx hy => h (i + 1) x y (by simpa using hx) (by simpa using hy)⟩
theorem chain_not {D : Type} {R : D -> D -> Bool} {l : List D} {i : Nat} {a b : D} (h1 : l[i]? = some a) (h2 : l[i + 1]? = some b) (h3 : R a b = false) : chain R l = false := by
 cases h : chain R l with
 | false => rfl
 | true => have := chain_iff.1 h i a b h1 h2; rw [h3] at this; cases this
theorem chain_step {D : Type} {R : D -> D -> Bool} {l : List D} {k : Nat} {a b : D} (h0 : ∀ i a b, i < k -> l[i]? = some a -> l[i + 1]? = some b -> R a b = true) (h1 : l[k]? = some a) (h2 : l[k + 1]? = some b) (h3 : R a b = true) :
 ∀ i a b, i < k + 1 -> l[i]? = some a -> l[i + 1]? = some b -> R a b = true := by
 intro i x y hi hx hy
 by_cases e : i = k
 ·subst e
  have e1 := h1.symm.trans hx
  have e2 := h2.symm.trans hy
  cases e1; cases e2
  exact h3
 exact h0 i x y (by omega) hx hy
theorem chain_all {D : Type} {R : D -> D -> Bool} {l : List D} {k : Nat} (hk : l.length <= k + 1) (h0 : ∀ i a b, i < k -> l[i]? = some a -> l[i + 1]? = some b -> R a b = true) : chain R l = true :=
 chain_iff.2 fun i a b hx hy => h0 i a b (by have := (List.getElem?_eq_some_iff.1 hy).1; omega) hx hy
def ltS (a b : ByteArray) : Bool := Op.bytesLess a.toList b.toList
/-! ### record.prop, record.Check -/
def prpE (p : Prp) : Int := if nameE p.name = 0 then valE p.v else nameE p.name
def recE (r : List Prp) : Int := if 8 < r.length then 4 else if firstE prpE r = 0 then (if chain (fun a b => ltS a.name b.name) r then 0 else 7) else firstE prpE r
set_option maxHeartbeats 400000 in
theorem prop_any (p : Prp) (hp : p.ok) (w : World) :
 Calls Tryz.prog 157 #[.agg #[.string p.name, .int .i64 p.v.ty, .int .i64 p.v.n, .string p.v.s]] w fun e w' => e = .returned (errV (prpE p)) /\ Below w.heap.size w w' := by
 obtain ⟨nm, v⟩ := p
 obtain ⟨hn, hv⟩ := hp
 have hn' : Sm nm := hn
 by_cases h : nameE nm = 0
 ·have HE : Hid (errV (prpE ⟨nm, v⟩) = errV (valE v)) := by unfold prpE; rw [if_pos h]; rfl
  have hE : errV (nameE nm) = .nilIface := errV_zero h
  clear h
  go_enter Tryz.func157, Tryz.ntmps157
  go_wp2_with fail
  refine (name_any nm _ hn').mono ?_
  rintro e w1 ⟨rfl, hb1⟩
  obtain ⟨hc, hf⟩ := bcell hb1
  rw [hE]
  go_wp2_with fail
  refine (check_any v hv _).mono ?_
  rintro e w2 ⟨rfl, hb2⟩
  have hb3 : Below w.heap.size w w2 := ((((Below.refl _ _).alloc (Nat.le_refl _) _).trans (hb1.mono (by simp))).trans (hb2.mono (by have := hb1.size; simp at this; omega)))
  go_wp2_with fail
  go_ret
  exact ⟨by rw [HE.out]; rfl, hb3⟩
 have HE : Hid (errV (prpE ⟨nm, v⟩) = .iface 122 (.int .i64 (nameE nm))) := by unfold prpE; rw [if_neg h]; exact errV_some h
 have hE : errV (nameE nm) = .iface 122 (.int .i64 (nameE nm)) := errV_some h
 clear h
 go_enter Tryz.func157, Tryz.ntmps157
 go_wp2_with fail
 refine (name_any nm _ hn').mono ?_
 rintro e w1 ⟨rfl, hb1⟩
 rw [hE]
 go_wp2_with fail
 go_ret
 exact ⟨by rw [HE.out]; rfl, ((Below.refl _ _).alloc (Nat.le_refl _) _).trans (hb1.mono (by simp))⟩
set_option maxHeartbeats 1000000 in
theorem recCheck_any (r : List Prp) (v : Value) (w : World) (hv : Sl prpL w v r) :
 Calls Tryz.prog 151 #[v] w fun e w' => e = .returned (errV (recE r)) /\ Below w.heap.size w w' := by
 obtain ⟨A, c, rfl, hlc, hcm⟩ := hv.form
 unfold maxLen at hcm
 have HF : Hid (recE r = if 8 < r.length then 4 else if firstE prpE r = 0 then (if chain (fun a b => ltS a.name b.name) r then 0 else 7) else firstE prpE r) := rfl
 by_cases h8 : 8 < r.length
 ·have HE : Hid (errV (recE r) = .iface 122 (.int .i64 4)) := by rw [HF.out, if_pos h8]; rfl
  have h8' : (8 : Int) < (r.length : Int) := by omega
  go_enter Tryz.func151, Tryz.ntmps151
  go_wp2_with fail
  go_ret
  exact ⟨by rw [HE.out]; rfl, Below.refl _ _⟩
 have h8' : decide ((8 : Int) < (r.length : Int)) = false := by simp; omega
 have h8'' : (r.length : Int) <= 8 := by omega
 go_enter Tryz.func151, Tryz.ntmps151
 go_wp2_with fail
 go_loopw [13] (fun i wr => ∃ k : Nat, k <= r.length /\ i = .int .i64 k /\ Below w.heap.size w wr /\ Hid (∀ j x, j < k -> r[j]? = some x -> prpE x = 0)) (fun i _ => r.length - (intOf i).toNat)
 case atStart => exact ⟨0, Nat.zero_le _, rfl, Below.refl _ _, fun j x hj => absurd hj (Nat.not_lt_zero _)⟩
 obtain ⟨k, hk, rfl, hb, HA⟩ := hrel
 by_cases hlt : k < r.length
 ·obtain ⟨d, hd⟩ : ∃ d, r[k]? = some d := ⟨_, List.getElem?_eq_getElem hlt⟩
  obtain ⟨b, o, rfl, hok, x0, x1, x2, x3⟩ := prp_at (hv.below hb) hd
  have HD : Hid (r[k]? = some d) := hd
  clear hd hv
  by_cases hz : prpE d = 0
  ·have hE : errV (prpE d) = .nilIface := errV_zero hz
   have HZ : Hid (prpE d = 0) := hz
   clear hz
   go_wp2_with fail
   refine (prop_any d hok _).mono ?_
   rintro e w1 ⟨rfl, hb1⟩
   rw [hE]
   have hb2 : Below w.heap.size w w1 := (hb.alloc hb.size _).trans (hb1.mono (by have := hb.size; simp; omega))
   go_wp2_with fail
   go_roundw
   case rel => exact ⟨k + 1, by omega, by go_num, hb2, zero_step HA.out HD.out HZ.out⟩
   case measure => simp [intOf]; omega
  have hE : errV (prpE d) = .iface 122 (.int .i64 (prpE d)) := errV_some hz
  have HE : Hid (errV (recE r) = .iface 122 (.int .i64 (prpE d))) := by
   have := firstE_hit HA.out HD.out hz
   rw [HF.out, if_neg h8, this, if_neg hz]; exact hE
  clear hz
  go_wp2_with fail
  refine (prop_any d hok _).mono ?_
  rintro e w1 ⟨rfl, hb1⟩
  rw [hE]
  have hb2 : Below w.heap.size w w1 := (hb.alloc hb.size _).trans (hb1.mono (by have := hb.size; simp; omega))
  go_wp2_with fail
  go_ret
  exact ⟨by rw [HE.out]; rfl, hb2⟩
 have hkl : k = r.length := by omega
 subst hkl
 have HG : Hid (recE r = if chain (fun a b => ltS a.name b.name) r then 0 else 7) := by
  rw [HF.out, if_neg h8, if_pos (firstE_none HA.out)]; rfl
 clear HF HA
 obtain ⟨wo, rfl⟩ : ∃ wo : World, wo = wr := ⟨_, rfl⟩
 go_wp2_with fail
 go_loopw [6] (fun i wr => ∃ k : Nat, (k = 0 \/ k < r.length) /\ i = .int .i64 ((k : Int) + 1) /\ Below w.heap.size w wr /\ Hid (∀ i a b, i < k -> r[i]? = some a -> r[i + 1]? = some b -> ltS a.name b.name = true)) (fun i _ => r.length + 1 - (intOf i).toNat)
 case atStart => exact ⟨0, Or.inl rfl, rfl, hb, fun j _ _ hj => absurd hj (Nat.not_lt_zero _)⟩
 obtain ⟨k, hk, rfl, hb, HA⟩ := hrel
 by_cases hlt : k + 1 < r.length
 ·obtain ⟨d, hd⟩ : ∃ d, r[k]? = some d := ⟨_, List.getElem?_eq_getElem (by omega)⟩
  obtain ⟨d', hd'⟩ : ∃ d, r[k + 1]? = some d := ⟨_, List.getElem?_eq_getElem hlt⟩
  obtain ⟨b, o, rfl, hall⟩ := prp_all (hv.below hb) (by omega)
  obtain ⟨_, x0, _⟩ := hall _ _ hd
  obtain ⟨_, y0, _⟩ := hall _ _ hd'
  clear hall
  have hlt' : (k : Int) + 1 < (r.length : Int) := by omega
  have HD : Hid (r[k]? = some d) := hd
  have HD' : Hid (r[k + 1]? = some d') := hd'
  clear hd hd' hv
  cases hR : ltS d.name d'.name with
  | true =>
   have hR' : Op.bytesLess d.name.toList d'.name.toList = true := hR
   have HR : Hid (ltS d.name d'.name = true) := hR
   clear hR
   go_wp2_with fail
   go_quiet (fail)
   go_wp2_with fail
   go_roundw
   case rel => exact ⟨k + 1, by omega, by go_num, below_drewN hb _, chain_step HA.out HD.out HD'.out HR.out⟩
   case measure => simp [intOf]; omega
  | false =>
   have hR' : Op.bytesLess d.name.toList d'.name.toList = false := hR
   have HE : Hid (errV (recE r) = .iface 122 (.int .i64 7)) := by
    rw [HG.out, chain_not HD.out HD'.out hR]; rfl
   clear hR
   go_wp2_with fail
   go_quiet (fail)
   go_wp2_with fail
   go_ret
   exact ⟨by rw [HE.out]; rfl, below_drewN hb _⟩
 have hlt' : (r.length : Int) <= (k : Int) + 1 := by omega
 have HE : Hid (errV (recE r) = .nilIface) := by
  rw [HG.out, chain_all (by omega) HA.out]; rfl
 clear hv
 go_wp2_with fail
 go_ret
 exact ⟨by rw [HE.out]; rfl, hb⟩
set_option maxHeartbeats 400000 in
theorem id_any (n : Int) (w : World) :
 Calls Tryz.prog 96 #[.int .i64 n] w fun e w' => e = .returned (.bool (decide (1 <= n) && decide (n <= 1000))) /\ w = w' := by
 by_cases h1 : 1 <= n
 ·go_enter Tryz.func96, Tryz.ntmps96
  go_wp2
  go_ret
  exact ⟨by simp [h1], rfl⟩
 have h1' : decide (1 <= n) = false := by simpa using h1
 go_enter Tryz.func96, Tryz.ntmps96
 go_wp2
 go_ret
 exact ⟨by simp, rfl⟩
def idB (n : Int) : Bool := decide (1 <= n) && decide (n <= 1000)
theorem id_b (n : Int) (w : World) : Calls Tryz.prog 96 #[.int .i64 n] w fun e w' => e = .returned (.bool (idB n)) /\ w = w' := id_any n w
theorem nan_any (n : Int) (w : World) :
 Calls Tryz.prog 193 #[.int .i64 n] w fun e w' => e = .returned (.bool false) /\ w = w' := by
 go_enter Tryz.func193, Tryz.ntmps193
 go_wp2
 go_ret
 exact ⟨by simp, rfl⟩
def cmpI (a b : Int) : Int := if a < b then -1 else if b < a then 1 else 0
theorem cmp_any (a b : Int) (w : World) :
 Calls Tryz.prog 144 #[.int .i64 a, .int .i64 b] w fun e w' => e = .returned (.int .i64 (cmpI a b)) /\ w = w' := by
 by_cases h1 : a < b
 ·have HE : Hid (cmpI a b = -1) := by unfold cmpI; rw [if_pos h1]; rfl
  go_enter Tryz.func144, Tryz.ntmps144
  go_wp2_with (go_at_call 193; refine (nan_any _ _).mono ?_; rintro e w' ⟨rfl, rfl⟩)
  go_ret
  exact ⟨by rw [HE.out]; rfl, rfl⟩
 by_cases h2 : b < a
 ·have HE : Hid (cmpI a b = 1) := by unfold cmpI; rw [if_neg h1, if_pos h2]; rfl
  have h1' : b <= a := by omega
  go_enter Tryz.func144, Tryz.ntmps144
  go_wp2_with (go_at_call 193; refine (nan_any _ _).mono ?_; rintro e w' ⟨rfl, rfl⟩)
  go_ret
  exact ⟨by rw [HE.out]; rfl, rfl⟩
 have HE : Hid (cmpI a b = 0) := by unfold cmpI; rw [if_neg h1, if_neg h2]; rfl
 have h1' : b <= a := by omega
 have h2' : a <= b := by omega
 go_enter Tryz.func144, Tryz.ntmps144
 go_wp2_with (go_at_call 193; refine (nan_any _ _).mono ?_; rintro e w' ⟨rfl, rfl⟩)
 go_ret
 exact ⟨by rw [HE.out]; rfl, rfl⟩
def cmpS (a b : ByteArray) : Int := Lib.compareBytes a.data.toList b.data.toList
set_option maxHeartbeats 1000000 in
set_option maxRecDepth 100000 in
theorem cmpString_any (a b : ByteArray) (w : World) :
 Calls Tryz.prog 190 #[.string a, .string b] w fun e w' => e = .returned (.int .i64 (cmpS a b)) /\ w = w' := by
 go_enter Tryz.func190, Tryz.ntmps190
 go_wp2_with fail
 rw [run_callFunc_extern Tryz.func225 (by kernel_rfl) (by kernel_rfl) (by kernel_rfl) (e := Extern.BytealgCompare.compare) (by kernel_rfl), Lib.run_compareString]
 simp only [Result.andThen]
 rw [Oper.upon_value]
 go_wp2_with fail
 go_ret
 exact ⟨rfl, rfl⟩
theorem scmp_any (a b : ByteArray) (w : World) :
 Calls Tryz.prog 139 #[.string a, .string b] w fun e w' => e = .returned (.int .i64 (cmpS a b)) /\ w = w' := by
 go_enter Tryz.func139, Tryz.ntmps139
 go_wp2_with (go_at_call 190; refine (cmpString_any _ _ _).mono ?_; rintro e w' ⟨rfl, rfl⟩)
 go_ret
 exact ⟨rfl, rfl⟩
theorem cmpI_i64 (a b : Int) : I64 (cmpI a b) := by unfold cmpI I64; split <;> (try split) <;> omega
theorem compareBytes_small : ∀ (a b : List UInt8), Lib.compareBytes a b = -1 \/ Lib.compareBytes a b = 0 \/ Lib.compareBytes a b = 1
 | [], [] => by simp [Lib.compareBytes]
 | [], _ :: _ => by simp [Lib.compareBytes]
 | _ :: _, [] => by simp [Lib.compareBytes]
 | a :: x, b :: y => by
  unfold Lib.compareBytes
  split
  ·simp
  split
  ·simp
  exact compareBytes_small x y
theorem cmpS_i64 (a b : ByteArray) : I64 (cmpS a b) := by
 unfold cmpS I64
 rcases compareBytes_small a.data.toList b.data.toList with h | h | h <;> rw [h] <;> omega
theorem heap_at_new (W : World) (o : Obj) (b : Nat) (hb : b = W.heap.size) : (W.alloc o).heap[b]? = some o := by subst hb; exact heap_alloc_new _ _
def orI : List Int -> Int
 | [] => 0
 | a :: r => if a = 0 then orI r else a
theorem orI_eq (l : List Int) : orI l = firstE id l := by
 induction l with
 | nil => rfl
 | cons a r ih => simp [orI, firstE, ih]
set_option maxHeartbeats 400000 in
theorem or_any (l : List Int) (v : Value) (w : World) (hv : Sl intL w v l) :
 Calls Tryz.prog 152 #[v] w fun e w' => e = .returned (.int .i64 (orI l)) /\ w = w' := by
 rw [orI_eq]
 obtain ⟨A, c, rfl, hlc, hcm⟩ := hv.form
 unfold maxLen at hcm
 go_enter Tryz.func152, Tryz.ntmps152
 go_wp2_with fail
 go_loop [8] (fun i => ∃ k : Nat, k <= l.length /\ i = .int .i64 k /\ Hid (∀ j x, j < k -> l[j]? = some x -> id x = 0)) (fun i => l.length - (intOf i).toNat)
 case atStart => exact ⟨0, Nat.zero_le _, rfl, fun j x hj => absurd hj (Nat.not_lt_zero _)⟩
 obtain ⟨k, hk, rfl, HA⟩ := hrel
 by_cases hlt : k < l.length
 ·obtain ⟨d, hd⟩ : ∃ d, l[k]? = some d := ⟨_, List.getElem?_eq_getElem hlt⟩
  obtain ⟨b, o, rfl, _, hcell⟩ := int_at hv hd
  have HD : Hid (l[k]? = some d) := hd
  clear hd hv
  by_cases hz : d = 0
  ·subst hz
   go_wp2_with fail
   go_round
   case rel => exact ⟨k + 1, by omega, by go_num, zero_step HA.out HD.out rfl⟩
   case measure => simp [intOf]; omega
  have hzb : (d != 0) = true := by simpa using hz
  have HE : Hid (firstE id l = d) := firstE_hit HA.out HD.out hz
  clear hz
  go_wp2_with fail
  go_ret
  exact ⟨by rw [HE.out]; rfl, rfl⟩
 have hkl : k = l.length := by omega
 subst hkl
 have HE : Hid (firstE id l = 0) := firstE_none HA.out
 clear hv
 go_wp2_with fail
 go_ret
 exact ⟨by rw [HE.out]; rfl, rfl⟩
/-! ### graph.OfNode, graph.OfTie, graph.Order -/
def nodE (n : Nod) : Int := if idB n.id = false then 1 else if nameE n.kind = 0 then recE n.props else nameE n.kind
def tieE (t : Tie) : Int := if nameE t.bond = 0 then (if (idB t.src && idB t.dst) then 0 else 1) else nameE t.bond
def tieO (a b : Tie) : Int := orI [cmpS a.bond b.bond, cmpI a.src b.src, cmpI a.dst b.dst]
set_option maxHeartbeats 400000 in
theorem ofNode_any (n : Nod) (v : Value) (w : World) (hi : Sm n.kind) (hv : Sl prpL w v n.props) :
 Calls Tryz.prog 97 #[.agg #[.int .i64 n.id, .string n.kind, v]] w fun e w' => e = .returned (errV (nodE n)) /\ Below w.heap.size w w' := by
 obtain ⟨A, c, rfl, _, _⟩ := hv.form
 have HF : Hid (nodE n = if idB n.id = false then 1 else if nameE n.kind = 0 then recE n.props else nameE n.kind) := rfl
 obtain ⟨id, kind, props⟩ := n
 have hi' : Sm kind := hi
 have hb0 : Below w.heap.size w (w.alloc (.cells #[.int .i64 id, .string kind, .slice A props.length c] 29)) := (Below.refl _ _).alloc (Nat.le_refl _) _
 cases h1 : idB id with
 | false =>
  have HE : Hid (errV (nodE ⟨id, kind, props⟩) = .iface 122 (.int .i64 1)) := by rw [HF.out]; simp only [h1, if_true]; rfl
  go_enter Tryz.func97, Tryz.ntmps97
  go_wp2_with (go_at_call 96; refine (id_b _ _).mono ?_; rintro e w' ⟨rfl, rfl⟩)
  go_ret
  exact ⟨by rw [HE.out]; rfl, hb0⟩
 | true =>
  by_cases h2 : nameE kind = 0
  ·have HE : Hid (errV (nodE ⟨id, kind, props⟩) = errV (recE props)) := by unfold Hid; rw [HF.out]; simp only [h1, h2, if_true, Bool.true_eq_false, if_false]
   have hE : errV (nameE kind) = .nilIface := errV_zero h2
   clear h2
   go_enter Tryz.func97, Tryz.ntmps97
   go_wp2_with (go_at_call 96; refine (id_b _ _).mono ?_; rintro e w' ⟨rfl, rfl⟩)
   refine (name_any kind _ hi').mono ?_
   rintro e w1 ⟨rfl, hb1⟩
   obtain ⟨hc, hf⟩ := bcell hb1
   have hb2 : Below w.heap.size w w1 := hb0.trans (hb1.mono hb0.size)
   rw [hE]
   go_wp2_with fail
   refine (recCheck_any props _ _ (hv.below hb2)).mono ?_
   rintro e w2 ⟨rfl, hb3⟩
   go_wp2_with fail
   go_ret
   exact ⟨by rw [HE.out]; rfl, hb2.trans (hb3.mono hb2.size)⟩
  have HE : Hid (errV (nodE ⟨id, kind, props⟩) = .iface 122 (.int .i64 (nameE kind))) := by unfold Hid; rw [HF.out]; simp only [h1, h2, Bool.true_eq_false, if_false]; exact errV_some h2
  have hE : errV (nameE kind) = .iface 122 (.int .i64 (nameE kind)) := errV_some h2
  clear h2
  go_enter Tryz.func97, Tryz.ntmps97
  go_wp2_with (go_at_call 96; refine (id_b _ _).mono ?_; rintro e w' ⟨rfl, rfl⟩)
  refine (name_any kind _ hi').mono ?_
  rintro e w1 ⟨rfl, hb1⟩
  have hb2 : Below w.heap.size w w1 := hb0.trans (hb1.mono hb0.size)
  rw [hE]
  go_wp2_with fail
  go_ret
  exact ⟨by rw [HE.out]; rfl, hb2⟩
set_option maxHeartbeats 400000 in
theorem ofTie_any (t : Tie) (w : World) (hs : Sm t.bond) :
 Calls Tryz.prog 98 #[.agg #[.string t.bond, .int .i64 t.src, .int .i64 t.dst]] w fun e w' => e = .returned (errV (tieE t)) /\ Below w.heap.size w w' := by
 have HF : Hid (tieE t = if nameE t.bond = 0 then (if (idB t.src && idB t.dst) then 0 else 1) else nameE t.bond) := rfl
 obtain ⟨bond, src, dst⟩ := t
 have hs : Sm bond := hs
 have hb0 : Below w.heap.size w (w.alloc (.cells #[.string bond, .int .i64 src, .int .i64 dst] 35)) := (Below.refl _ _).alloc (Nat.le_refl _) _
 by_cases h1 : nameE bond = 0
 ·have hE : errV (nameE bond) = .nilIface := errV_zero h1
  have HG : Hid (tieE ⟨bond, src, dst⟩ = if (idB src && idB dst) then 0 else 1) := by unfold Hid; rw [HF.out]; simp only [h1, if_true]
  clear h1
  cases h2 : idB src with
  | false =>
   have HE : Hid (errV (tieE ⟨bond, src, dst⟩) = .iface 122 (.int .i64 1)) := by rw [HG.out, h2]; rfl
   go_enter Tryz.func98, Tryz.ntmps98
   go_wp2_with fail
   refine (name_any bond _ hs).mono ?_
   rintro e w1 ⟨rfl, hb1⟩
   obtain ⟨hc, hf⟩ := bcell hb1
   have hb2 : Below w.heap.size w w1 := hb0.trans (hb1.mono hb0.size)
   rw [hE]
   go_wp2_with (go_at_call 96; refine (id_b _ _).mono ?_; rintro e w' ⟨rfl, rfl⟩)
   go_ret
   exact ⟨by rw [HE.out]; rfl, hb2⟩
  | true =>
   cases h3 : idB dst with
   | false =>
    have HE : Hid (errV (tieE ⟨bond, src, dst⟩) = .iface 122 (.int .i64 1)) := by rw [HG.out, h2, h3]; rfl
    go_enter Tryz.func98, Tryz.ntmps98
    go_wp2_with fail
    refine (name_any bond _ hs).mono ?_
    rintro e w1 ⟨rfl, hb1⟩
    obtain ⟨hc, hf⟩ := bcell hb1
    have hb2 : Below w.heap.size w w1 := hb0.trans (hb1.mono hb0.size)
    rw [hE]
    go_wp2_with (go_at_call 96; refine (id_b _ _).mono ?_; rintro e w' ⟨rfl, rfl⟩)
    go_ret
    exact ⟨by rw [HE.out]; rfl, hb2⟩
   | true =>
    have HE : Hid (errV (tieE ⟨bond, src, dst⟩) = .nilIface) := by rw [HG.out, h2, h3]; rfl
    go_enter Tryz.func98, Tryz.ntmps98
    go_wp2_with fail
    refine (name_any bond _ hs).mono ?_
    rintro e w1 ⟨rfl, hb1⟩
    obtain ⟨hc, hf⟩ := bcell hb1
    have hb2 : Below w.heap.size w w1 := hb0.trans (hb1.mono hb0.size)
    rw [hE]
    go_wp2_with (go_at_call 96; refine (id_b _ _).mono ?_; rintro e w' ⟨rfl, rfl⟩)
    go_ret
    exact ⟨by rw [HE.out]; rfl, hb2⟩
 have HE : Hid (errV (tieE ⟨bond, src, dst⟩) = .iface 122 (.int .i64 (nameE bond))) := by unfold Hid; rw [HF.out]; simp only [h1, if_false]; exact errV_some h1
 have hE : errV (nameE bond) = .iface 122 (.int .i64 (nameE bond)) := errV_some h1
 clear h1
 go_enter Tryz.func98, Tryz.ntmps98
 go_wp2_with fail
 refine (name_any bond _ hs).mono ?_
 rintro e w1 ⟨rfl, hb1⟩
 obtain ⟨hc, hf⟩ := bcell hb1
 have hb2 : Below w.heap.size w w1 := hb0.trans (hb1.mono hb0.size)
 rw [hE]
 go_wp2_with (go_at_call 96; refine (id_b _ _).mono ?_; rintro e w' ⟨rfl, rfl⟩)
 go_ret
 exact ⟨by rw [HE.out]; rfl, hb2⟩
set_option maxHeartbeats 1000000 in
theorem order_any (a b : Tie) (w : World) :
 Calls Tryz.prog 99 #[.agg #[.string a.bond, .int .i64 a.src, .int .i64 a.dst], .agg #[.string b.bond, .int .i64 b.src, .int .i64 b.dst]] w fun e w' => e = .returned (.int .i64 (tieO a b)) /\ Below w.heap.size w w' := by
 have HF : Hid (tieO a b = orI [cmpS a.bond b.bond, cmpI a.src b.src, cmpI a.dst b.dst]) := rfl
 go_enter Tryz.func99, Tryz.ntmps99
 go_wp2_with fail
 refine wp_quiet_tail 15 (by kernel_rfl) (by kernel_rfl) ?_
 simp only [List.take_succ_cons, List.take_zero, List.drop_succ_cons, List.drop_zero]
 repeat (go_big_quiet_step (first | (go_at_call 139; exact Calls.quiet_of_same ((scmp_any _ _ _).mono fun _ _ h => ⟨h.1, h.2.symm⟩)) | (go_at_call 144; exact Calls.quiet_of_same ((cmp_any _ _ _).mono fun _ _ h => ⟨h.1, h.2.symm⟩))))
 refine wpQuiet_nil ?_
 intro _ hw'
 obtain ⟨nq, hw''⟩ := hw'
 subst hw''
 have hI : ∀ x ∈ [cmpS a.bond b.bond, cmpI a.src b.src, cmpI a.dst b.dst], I64 x := by
  intro x hx
  simp only [List.mem_cons, List.not_mem_nil, or_false] at hx
  rcases hx with rfl | rfl | rfl
  ·exact cmpS_i64 _ _
  ·exact cmpI_i64 _ _
  exact cmpI_i64 _ _
 go_wp2_with fail
 refine (or_any [cmpS a.bond b.bond, cmpI a.src b.src, cmpI a.dst b.dst] _ _ ?_).mono ?_
 ·exact sl_ints [cmpS a.bond b.bond, cmpI a.src b.src, cmpI a.dst b.dst] hI 3 (by simp) (by unfold maxLen; omega) (heap_at_new _ _ _ (by simp [World.drewN]))
 rintro e w' ⟨rfl, rfl⟩
 go_wp2_with fail
 go_ret
 refine ⟨by rw [HF.out]; rfl, Below.alloc (below_drewN (((Below.refl _ _).alloc (Nat.le_refl _) _).alloc (by simp) _) _) (by simp [World.drewN]; omega) _⟩
def prev {D : Type} (l : List D) : Nat -> Option D
 | 0 => none
 | k + 1 => l[k]?
theorem drop_cons {D : Type} {l : List D} {k : Nat} {d : D} (h : l[k]? = some d) : l.drop k = d :: l.drop (k + 1) := by
 obtain ⟨hk, rfl⟩ := List.getElem?_eq_some_iff.1 h
 exact List.drop_eq_getElem_cons hk
def nodsE : Option Nod -> List Nod -> Int
 | _, [] => 0
 | p, n :: r => if idB n.id = false then 1 else if (match p with | some q => decide (n.id <= q.id) | none => false) then 7 else if nodE n = 0 then nodsE (some n) r else nodE n
def tiesE : Option Tie -> List Tie -> Int
 | _, [] => 0
 | p, t :: r => if tieE t = 0 then (if (match p with | some q => decide (0 <= tieO q t) | none => false) then 7 else tiesE (some t) r) else tieE t
def grfE (g : Grf) : Int :=
 if 60 < g.nodes.length \/ 120 < g.ties.length then 4 else if nodsE none g.nodes = 0 then tiesE none g.ties else nodsE none g.nodes
theorem cell_box3 (w : World) (a b c : Value) (t : TypeId) : (w.alloc (.cells #[a, b, c] t)).cell? ⟨w.heap.size, 0, none⟩ = some a /\ (w.alloc (.cells #[a, b, c] t)).cell? ⟨w.heap.size, 1, none⟩ = some b /\
 (w.alloc (.cells #[a, b, c] t)).cell? ⟨w.heap.size, 2, none⟩ = some c :=
 ⟨by rw [World.cell?_alloc_at _ _ _ _ rfl]; rfl, by rw [World.cell?_alloc_at _ _ _ _ rfl]; rfl, by rw [World.cell?_alloc_at _ _ _ _ rfl]; rfl⟩
theorem cell_box2 (w : World) (a b : Value) (t : TypeId) : (w.alloc (.cells #[a, b] t)).cell? ⟨w.heap.size, 0, none⟩ = some a /\ (w.alloc (.cells #[a, b] t)).cell? ⟨w.heap.size, 1, none⟩ = some b :=
 ⟨by rw [World.cell?_alloc_at _ _ _ _ rfl]; rfl, by rw [World.cell?_alloc_at _ _ _ _ rfl]; rfl⟩
set_option maxHeartbeats 4000000 in
theorem grfCheck_any (g : Grf) (vn vt : Value) (w : World) (hg : GrfR w vn vt g) :
 Calls Tryz.prog 48 #[.agg #[vn, vt]] w fun e w' => e = .returned (errV (grfE g)) /\ Below w.heap.size w w' := by
 obtain ⟨hn, ht⟩ := hg
 obtain ⟨A, c, rfl, hlc, hcm⟩ := hn.form
 obtain ⟨A', c', rfl, hlc', hcm'⟩ := ht.form
 unfold maxLen at hcm hcm'
 have HF : Hid (grfE g = if 60 < g.nodes.length \/ 120 < g.ties.length then 4 else if nodsE none g.nodes = 0 then tiesE none g.ties else nodsE none g.nodes) := rfl
 obtain ⟨q0, q1⟩ := cell_box2 w (.slice A g.nodes.length c) (.slice A' g.ties.length c') 25
 have hb0 : Below w.heap.size w (w.alloc (.cells #[.slice A g.nodes.length c, .slice A' g.ties.length c'] 25)) := (Below.refl _ _).alloc (Nat.le_refl _) _
 by_cases h1 : 60 < g.nodes.length
 ·have HE : Hid (errV (grfE g) = .iface 122 (.int .i64 4)) := by rw [HF.out, if_pos (Or.inl h1)]; rfl
  have h1' : (60 : Int) < (g.nodes.length : Int) := by omega
  clear hn ht
  go_enter Tryz.func48, Tryz.ntmps48
  go_wp2_with fail
  go_ret
  exact ⟨by rw [HE.out]; rfl, hb0⟩
 have h1' : decide ((60 : Int) < (g.nodes.length : Int)) = false := by simp; omega
 have h1'' : (g.nodes.length : Int) <= 60 := by omega
 by_cases h2 : 120 < g.ties.length
 ·have HE : Hid (errV (grfE g) = .iface 122 (.int .i64 4)) := by rw [HF.out, if_pos (Or.inr h2)]; rfl
  have h2' : (120 : Int) < (g.ties.length : Int) := by omega
  clear hn ht
  go_enter Tryz.func48, Tryz.ntmps48
  go_wp2_with fail
  go_ret
  exact ⟨by rw [HE.out]; rfl, hb0⟩
 have h2' : decide ((120 : Int) < (g.ties.length : Int)) = false := by simp; omega
 have h2'' : (g.ties.length : Int) <= 120 := by omega
 have HG : Hid (grfE g = if nodsE none g.nodes = 0 then tiesE none g.ties else nodsE none g.nodes) := by rw [HF.out, if_neg (by omega)]; rfl
 clear HF
 have H1 := Lib.hid h1
 have H2 := Lib.hid h2
 clear h1 h2
 have hw0 : w.heap.size < (w.alloc (.cells #[.slice A g.nodes.length c, .slice A' g.ties.length c'] 25)).heap.size := by simp
 go_enter Tryz.func48, Tryz.ntmps48
 go_wp2_with fail
 generalize hW : w.alloc (.cells #[.slice A g.nodes.length c, .slice A' g.ties.length c'] 25) = W at q0 q1 hb0 hw0
 clear hW
 go_loopw [23] (fun i wr => ∃ k : Nat, k <= g.nodes.length /\ i = .int .i64 k /\ Below W.heap.size W wr /\ Hid (nodsE none g.nodes = nodsE (prev g.nodes k) (g.nodes.drop k))) (fun i _ => g.nodes.length - (intOf i).toNat)
 case atStart => exact ⟨0, Nat.zero_le _, rfl, Below.refl _ _, rfl⟩
 obtain ⟨k, hk, rfl, hb, HA⟩ := hrel
 have hbw : Below w.heap.size w wr := hb0.trans (hb.mono hb0.size)
 have r0 : wr.cell? ⟨w.heap.size, 0, none⟩ = some (.slice A g.nodes.length c) := cell_below hb q0
 have r1 : wr.cell? ⟨w.heap.size, 1, none⟩ = some (.slice A' g.ties.length c') := cell_below hb q1
 by_cases hlt : k < g.nodes.length
 ·obtain ⟨d, hd⟩ : ∃ d, g.nodes[k]? = some d := ⟨_, List.getElem?_eq_getElem hlt⟩
  obtain ⟨b, o, rfl, hall⟩ := nod_all (hn.below hbw) (by omega)
  obtain ⟨u, hid, hkd, hpr, x0, x1, x2⟩ := hall _ _ hd
  obtain ⟨Ar, cr, rfl, _, _⟩ := hpr.form
  have hwr : w.heap.size < wr.heap.size := by have := hb.size; omega
  have hbl : b < wr.heap.size := World.block_lt_of_cell? _ _ x0
  have HS : Hid (nodsE none g.nodes = nodsE (prev g.nodes k) (d :: g.nodes.drop (k + 1))) := by rw [HA.out, drop_cons hd]; rfl
  have hbx : Below W.heap.size W (wr.alloc (.cells #[.int .i64 d.id, .string d.kind, .slice Ar d.props.length cr] 29)) := hb.alloc hb.size _
  clear HA
  cases h3 : idB d.id with
  | false =>
   have HE : Hid (errV (grfE g) = .iface 122 (.int .i64 1)) := by
    have : nodsE none g.nodes = 1 := by rw [HS.out]; simp only [nodsE, h3, if_true]
    rw [HG.out, if_neg (by rw [this]; decide), this]; rfl
   clear hall hd hn ht
   go_wp2_with (go_at_call 96; refine (id_b _ _).mono ?_; rintro e w' ⟨rfl, rfl⟩)
   go_ret
   exact ⟨by rw [HE.out]; rfl, hb0.trans (hbx.mono hb0.size)⟩
  | true =>
   rcases Nat.eq_zero_or_pos k with hk0 | hk0
   ·have hkd0 : decide ((0 : Int) < (k : Int)) = false := by simp; omega
    have hkd1 : (k : Int) <= 0 := by omega
    have hkd2 : decide (0 < k) = false := by simp; omega
    have HS' : Hid (nodsE none g.nodes = if nodE d = 0 then nodsE (some d) (g.nodes.drop (k + 1)) else nodE d) := by
     rw [HS.out, hk0]; simp only [nodsE, prev, h3, Bool.true_eq_false, if_false]; rfl
    have HP : Hid (prev g.nodes (k + 1) = some d) := hd
    clear hall hd hk0 HS
    by_cases h4 : nodE d = 0
    ·have hE : errV (nodE d) = .nilIface := errV_zero h4
     have HT : Hid (nodsE none g.nodes = nodsE (prev g.nodes (k + 1)) (g.nodes.drop (k + 1))) := by rw [HS'.out, if_pos h4, HP.out]; rfl
     clear h4 HS'
     go_wp2_with (go_at_call 96; refine (id_b _ _).mono ?_; rintro e w' ⟨rfl, rfl⟩)
     go_quiet (fail)
     go_wp2_with fail
     refine (ofNode_any d _ _ hkd ((hpr.below ((Below.refl _ _).alloc (Nat.le_refl _) _)).below (below_drewN (Below.refl _ _) _))).mono ?_
     rintro e w1 ⟨rfl, hb1⟩
     rw [hE]
     have hb2 : Below W.heap.size W w1 := (below_drewN hbx nq).trans (hb1.mono (by have := hb.size; simp [World.drewN]; omega))
     go_wp2_with fail
     go_roundw
     case rel => exact ⟨k + 1, by omega, by go_num, hb2, HT⟩
     case measure => simp [intOf]; omega
    have hE : errV (nodE d) = .iface 122 (.int .i64 (nodE d)) := errV_some h4
    have HE : Hid (errV (grfE g) = .iface 122 (.int .i64 (nodE d))) := by
     have : nodsE none g.nodes = nodE d := by rw [HS'.out, if_neg h4]
     rw [HG.out, if_neg (by rw [this]; exact h4), this]; exact hE
    clear h4 HS'
    go_wp2_with (go_at_call 96; refine (id_b _ _).mono ?_; rintro e w' ⟨rfl, rfl⟩)
    go_quiet (fail)
    go_wp2_with fail
    refine (ofNode_any d _ _ hkd ((hpr.below ((Below.refl _ _).alloc (Nat.le_refl _) _)).below (below_drewN (Below.refl _ _) _))).mono ?_
    rintro e w1 ⟨rfl, hb1⟩
    rw [hE]
    have hb2 : Below W.heap.size W w1 := (below_drewN hbx nq).trans (hb1.mono (by have := hb.size; simp [World.drewN]; omega))
    go_wp2_with fail
    go_ret
    exact ⟨by rw [HE.out]; rfl, hb0.trans (hb2.mono hb0.size)⟩
   obtain ⟨p, hp⟩ : ∃ p, g.nodes[k - 1]? = some p := ⟨_, List.getElem?_eq_getElem (by omega)⟩
   obtain ⟨u', hid', _, _, y0, _, _⟩ := hall _ _ hp
   have hkd0 : (0 : Int) < (k : Int) := by omega
   have hkd1 : decide ((0 : Int) < (k : Int)) = true := by simp; omega
   have hkd2 : decide (0 < k) = true := by simp; omega
   have hpv : prev g.nodes k = some p := by
    obtain ⟨m, rfl⟩ : ∃ m, k = m + 1 := ⟨k - 1, by omega⟩
    exact hp
   have HP : Hid (prev g.nodes (k + 1) = some d) := hd
   by_cases h5 : d.id <= p.id
   ·have h5' : decide (d.id <= p.id) = true := by simpa using h5
    have HE : Hid (errV (grfE g) = .iface 122 (.int .i64 7)) := by
     have : nodsE none g.nodes = 7 := by rw [HS.out, hpv]; simp only [nodsE, h3, h5', Bool.true_eq_false, if_false, if_true]
     rw [HG.out, if_neg (by rw [this]; decide), this]; rfl
    clear hall hd hp HS hpv hn ht
    go_wp2_with (go_at_call 96; refine (id_b _ _).mono ?_; rintro e w' ⟨rfl, rfl⟩)
    go_quiet (fail)
    go_wp2_with fail
    go_ret
    exact ⟨by rw [HE.out]; rfl, hb0.trans ((below_drewN hbx _).mono hb0.size)⟩
   have h5' : decide (d.id <= p.id) = false := by simpa using h5
   have h5'' : p.id < d.id := by omega
   have HS' : Hid (nodsE none g.nodes = if nodE d = 0 then nodsE (some d) (g.nodes.drop (k + 1)) else nodE d) := by
    unfold Hid; rw [HS.out, hpv]; simp only [nodsE, h3, h5', Bool.true_eq_false, if_false, Bool.false_eq_true]
   clear hall hd hp HS hpv hn ht h5
   by_cases h4 : nodE d = 0
   ·have hE : errV (nodE d) = .nilIface := errV_zero h4
    have HT : Hid (nodsE none g.nodes = nodsE (prev g.nodes (k + 1)) (g.nodes.drop (k + 1))) := by rw [HS'.out, if_pos h4, HP.out]; rfl
    clear h4 HS'
    go_wp2_with (go_at_call 96; refine (id_b _ _).mono ?_; rintro e w' ⟨rfl, rfl⟩)
    go_quiet (fail)
    go_wp2_with fail
    refine (ofNode_any d _ _ hkd ((hpr.below ((Below.refl _ _).alloc (Nat.le_refl _) _)).below (below_drewN (Below.refl _ _) _))).mono ?_
    rintro e w1 ⟨rfl, hb1⟩
    rw [hE]
    have hb2 : Below W.heap.size W w1 := (below_drewN hbx nq).trans (hb1.mono (by have := hb.size; simp [World.drewN]; omega))
    go_wp2_with fail
    go_roundw
    case rel => exact ⟨k + 1, by omega, by go_num, hb2, HT⟩
    case measure => simp [intOf]; omega
   have hE : errV (nodE d) = .iface 122 (.int .i64 (nodE d)) := errV_some h4
   have HE : Hid (errV (grfE g) = .iface 122 (.int .i64 (nodE d))) := by
    have : nodsE none g.nodes = nodE d := by rw [HS'.out, if_neg h4]
    rw [HG.out, if_neg (by rw [this]; exact h4), this]; exact hE
   clear h4 HS'
   go_wp2_with (go_at_call 96; refine (id_b _ _).mono ?_; rintro e w' ⟨rfl, rfl⟩)
   go_quiet (fail)
   go_wp2_with fail
   refine (ofNode_any d _ _ hkd ((hpr.below ((Below.refl _ _).alloc (Nat.le_refl _) _)).below (below_drewN (Below.refl _ _) _))).mono ?_
   rintro e w1 ⟨rfl, hb1⟩
   rw [hE]
   have hb2 : Below W.heap.size W w1 := (below_drewN hbx nq).trans (hb1.mono (by have := hb.size; simp [World.drewN]; omega))
   go_wp2_with fail
   go_ret
   exact ⟨by rw [HE.out]; rfl, hb0.trans (hb2.mono hb0.size)⟩
 have hkl : k = g.nodes.length := by omega
 subst hkl
 have HT : Hid (grfE g = tiesE none g.ties) := by
  have : nodsE none g.nodes = 0 := by rw [HA.out, List.drop_length]; rfl
  rw [HG.out, if_pos this]; rfl
 clear HG HA hn
 obtain ⟨wo, rfl⟩ : ∃ wo : World, wo = wr := ⟨_, rfl⟩
 go_wp2_with fail
 go_loopw [57] (fun i wr => ∃ k : Nat, k <= g.ties.length /\ i = .int .i64 k /\ Below wo.heap.size wo wr /\ Hid (tiesE none g.ties = tiesE (prev g.ties k) (g.ties.drop k))) (fun i _ => g.ties.length - (intOf i).toNat)
 case atStart => exact ⟨0, Nat.zero_le _, rfl, Below.refl _ _, rfl⟩
 obtain ⟨k, hk, rfl, hc, HA⟩ := hrel
 have hbw' : Below w.heap.size w wr := hbw.trans (hc.mono hbw.size)
 have r0 : wr.cell? ⟨w.heap.size, 0, none⟩ = some (.slice A g.nodes.length c) := cell_below hc r0
 have r1 : wr.cell? ⟨w.heap.size, 1, none⟩ = some (.slice A' g.ties.length c') := cell_below hc r1
 by_cases hlt : k < g.ties.length
 ·obtain ⟨d, hd⟩ : ∃ d, g.ties[k]? = some d := ⟨_, List.getElem?_eq_getElem hlt⟩
  obtain ⟨b, o, rfl, hall⟩ := tie_all (ht.below hbw') (by omega)
  obtain ⟨hok, x0, x1, x2⟩ := hall _ _ hd
  have HS : Hid (tiesE none g.ties = tiesE (prev g.ties k) (d :: g.ties.drop (k + 1))) := by rw [HA.out, drop_cons hd]; rfl
  have HP : Hid (prev g.ties (k + 1) = some d) := hd
  have hwr : w.heap.size < wr.heap.size := by have := hc.size; have := hb.size; omega
  have hbl : b < wr.heap.size := World.block_lt_of_cell? _ _ x0
  have hbx : Below w.heap.size w (wr.alloc (.cells #[.string d.bond, .int .i64 d.src, .int .i64 d.dst] 35)) := hbw'.alloc hbw'.size _
  have hbo : Below wo.heap.size wo (wr.alloc (.cells #[.string d.bond, .int .i64 d.src, .int .i64 d.dst] 35)) := hc.alloc hc.size _
  clear HA
  by_cases h4 : tieE d = 0
  ·have hE : errV (tieE d) = .nilIface := errV_zero h4
   rcases Nat.eq_zero_or_pos k with hk0 | hk0
   ·have hkd0 : decide ((0 : Int) < (k : Int)) = false := by simp; omega
    have hkd1 : (k : Int) <= 0 := by omega
    have hkd2 : decide (0 < k) = false := by simp; omega
    have HT : Hid (tiesE none g.ties = tiesE (prev g.ties (k + 1)) (g.ties.drop (k + 1))) := by
     unfold Hid; rw [HS.out, HP.out, hk0]; simp [tiesE, prev, h4]
    clear hall hd hk0 HS h4 ht
    go_wp2_with fail
    refine (ofTie_any d _ hok.1).mono ?_
    rintro e w1 ⟨rfl, hb1⟩
    have hb2 : Below wo.heap.size wo w1 := hbo.trans (hb1.mono (by have := hc.size; simp; omega))
    rw [hE]
    go_wp2_with fail
    go_quiet (fail)
    go_wp2_with fail
    go_roundw
    case rel => exact ⟨k + 1, by omega, by go_num, below_drewN hb2 _, HT⟩
    case measure => simp [intOf]; omega
   obtain ⟨p, hp⟩ : ∃ p, g.ties[k - 1]? = some p := ⟨_, List.getElem?_eq_getElem (by omega)⟩
   obtain ⟨hok', y0, y1, y2⟩ := hall _ _ hp
   have hkd0 : (0 : Int) < (k : Int) := by omega
   have hkd1 : decide ((0 : Int) < (k : Int)) = true := by simp; omega
   have hkd2 : decide (0 < k) = true := by simp; omega
   have hpv : prev g.ties k = some p := by
    obtain ⟨m, rfl⟩ : ∃ m, k = m + 1 := ⟨k - 1, by omega⟩
    exact hp
   have e0 := World.cell?_alloc_lt wr (.cells #[.string d.bond, .int .i64 d.src, .int .i64 d.dst] 35) (a := ⟨b, o + (k - 1) * 3, none⟩) hbl
   have e1 := World.cell?_alloc_lt wr (.cells #[.string d.bond, .int .i64 d.src, .int .i64 d.dst] 35) (a := ⟨b, o + (k - 1) * 3 + 1, none⟩) hbl
   have e2 := World.cell?_alloc_lt wr (.cells #[.string d.bond, .int .i64 d.src, .int .i64 d.dst] 35) (a := ⟨b, o + (k - 1) * 3 + 2, none⟩) hbl
   have e3 := World.cell?_alloc_lt wr (.cells #[.string d.bond, .int .i64 d.src, .int .i64 d.dst] 35) (a := ⟨w.heap.size, 1, none⟩) hwr
   obtain ⟨f0, f1, f2⟩ := cell_box3 wr (.string d.bond) (.int .i64 d.src) (.int .i64 d.dst) 35
   have hord := fun (x : World) => order_any p d x
   by_cases h5 : 0 <= tieO p d
   ·have h5' : decide (0 <= tieO p d) = true := by simpa using h5
    have HE : Hid (errV (grfE g) = .iface 122 (.int .i64 7)) := by
     have : tiesE none g.ties = 7 := by rw [HS.out, hpv]; simp only [tiesE, h4, h5', if_true]
     rw [HT.out, this]; rfl
    clear hall hd HS h4 ht hp h5 hpv
    go_wp2_with fail
    refine (ofTie_any d _ hok.1).mono ?_
    rintro e w1 ⟨rfl, hb1⟩
    rw [hE]
    have g1 := fun dd os => Go.cell_regrown (cell_below hb1 (e3.trans r1)) dd os
    have z0 := fun dd os => Go.cell_regrown (cell_below hb1 (e0.trans y0)) dd os
    have z1 := fun dd os => Go.cell_regrown (cell_below hb1 (e1.trans y1)) dd os
    have z2 := fun dd os => Go.cell_regrown (cell_below hb1 (e2.trans y2)) dd os
    have v0 := fun dd os => Go.cell_regrown (cell_below hb1 f0) dd os
    have v1 := fun dd os => Go.cell_regrown (cell_below hb1 f1) dd os
    have v2 := fun dd os => Go.cell_regrown (cell_below hb1 f2) dd os
    clear e0 e1 e2 e3 f0 f1 f2
    go_wp2_with fail
    refine Go.wp_region_quiet_below (by kernel_rfl) (by kernel_rfl) ?_
    repeat (go_big_quiet_step ((go_at_call 99; exact Go.Calls.regrown_of (hord _))))
    refine wpQuiet_nil ?_
    intro _ hw'
    obtain ⟨⟨dq, osq⟩, hw''⟩ := hw'
    subst hw''
    go_wp2_with fail
    go_ret
    exact ⟨by rw [HE.out]; rfl, (hbx.trans (hb1.mono hbx.size)).trans ((below_regrown w1 dq osq).mono (by have := hb1.size; have := hbx.size; omega))⟩
   have h5' : decide (0 <= tieO p d) = false := by simpa using h5
   have HT' : Hid (tiesE none g.ties = tiesE (prev g.ties (k + 1)) (g.ties.drop (k + 1))) := by
    unfold Hid; rw [HS.out, HP.out, hpv]; simp only [tiesE, h4, h5', if_true, Bool.false_eq_true, if_false]
   clear hall hd HS h4 ht hp h5 hpv
   go_wp2_with fail
   refine (ofTie_any d _ hok.1).mono ?_
   rintro e w1 ⟨rfl, hb1⟩
   rw [hE]
   have g1 := fun dd os => Go.cell_regrown (cell_below hb1 (e3.trans r1)) dd os
   have z0 := fun dd os => Go.cell_regrown (cell_below hb1 (e0.trans y0)) dd os
   have z1 := fun dd os => Go.cell_regrown (cell_below hb1 (e1.trans y1)) dd os
   have z2 := fun dd os => Go.cell_regrown (cell_below hb1 (e2.trans y2)) dd os
   have v0 := fun dd os => Go.cell_regrown (cell_below hb1 f0) dd os
   have v1 := fun dd os => Go.cell_regrown (cell_below hb1 f1) dd os
   have v2 := fun dd os => Go.cell_regrown (cell_below hb1 f2) dd os
   clear e0 e1 e2 e3 f0 f1 f2
   go_wp2_with fail
   refine Go.wp_region_quiet_below (by kernel_rfl) (by kernel_rfl) ?_
   repeat (go_big_quiet_step ((go_at_call 99; exact Go.Calls.regrown_of (hord _))))
   refine wpQuiet_nil ?_
   intro _ hw'
   obtain ⟨⟨dq, osq⟩, hw''⟩ := hw'
   subst hw''
   go_wp2_with fail
   have hb3 : Below wo.heap.size wo w1 := hbo.trans (hb1.mono hbo.size)
   go_roundw
   case rel => exact ⟨k + 1, by omega, by go_num, hb3.trans ((below_regrown w1 dq osq).mono hb3.size), HT'⟩
   case measure => simp [intOf]; omega
  have hE : errV (tieE d) = .iface 122 (.int .i64 (tieE d)) := errV_some h4
  have HE : Hid (errV (grfE g) = .iface 122 (.int .i64 (tieE d))) := by
   have : tiesE none g.ties = tieE d := by rw [HS.out]; simp only [tiesE, h4, if_false]
   rw [HT.out, this]; exact hE
  clear hall hd HS h4 ht
  go_wp2_with fail
  refine (ofTie_any d _ hok.1).mono ?_
  rintro e w1 ⟨rfl, hb1⟩
  rw [hE]
  go_wp2_with fail
  go_ret
  exact ⟨by rw [HE.out]; rfl, hbx.trans (hb1.mono hbx.size)⟩
 have hkl : k = g.ties.length := by omega
 subst hkl
 have HE : Hid (errV (grfE g) = .nilIface) := by
  have : tiesE none g.ties = 0 := by rw [HA.out, List.drop_length]; rfl
  rw [HT.out, this]; rfl
 clear ht
 go_wp2_with fail
 go_ret
 exact ⟨by rw [HE.out]; rfl, hbw'⟩
end Go.Proofs.YtngbbefpphinjaaGreatDoor
