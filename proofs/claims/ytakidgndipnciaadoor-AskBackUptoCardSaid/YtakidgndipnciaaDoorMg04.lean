/- Parts: VtV, Qt, Qm, InsA, InsC, InsB, RecA, RecB, GrA, GrB, FindA, FindB, OwnF. -/
import Derived.Test.YtakidgndipnciaaDoorMg01
import Derived.Test.YtakidgndipnciaaDoorMg02
import Derived.Test.YtakidgndipnciaaDoorMg03
import Derived.StillTail
import Derived.BigQuiet
import Derived.Lib.QuietBelow
import Derived.Lib.AppendZerosOnto
import Derived.Lib.Overlaps
import Derived.Test.YtakidgndipnciaaDoorRows
import Derived.Maps.RangeWalk
import Derived.Lib.Bytealg
import Derived.StillTailTactics
import Derived.Sort.Walk0
/- Plain: a value as text, and a text as a value. No condition. -/
namespace Go.Proofs.YtakidgndipnciaaDoor
open Go

def bs (l : List UInt8) : ByteArray := ⟨l.toArray⟩
theorem bs_list (l : List UInt8) : (bs l).data.toList = l := by simp [bs]
theorem bs_size (l : List UInt8) : (bs l).size = l.length := by simp [bs, ByteArray.size]
theorem bs_of (s : ByteArray) : bs s.data.toList = s := by cases s; simp [bs]
theorem bs_append (a b : List UInt8) : bs a ++ bs b = bs (a ++ b) := by
  apply ByteArray.ext
  simp [bs]
def trueL : List UInt8 := [116, 114, 117, 101]
def falseL : List UInt8 := [102, 97, 108, 115, 101]
/-- A value that is right, as text. -/
def showL (v : Val) : List UInt8 := if v.ty = 1 then Lib.itoa v.n else if v.ty = 2 then (if v.n = 1 then trueL else falseL) else 39 :: (dbl v.s.data.toList ++ [39])
/-- What stands between quotes. -/
def bodyL (l : List UInt8) : List UInt8 := Lib.replaceAll ((l.drop 1).take (l.length - 2)) [39, 39] [39]
def quotB (l : List UInt8) : Bool := decide (2 ≤ l.length) && decide (l = 39 :: (dbl (bodyL l) ++ [39])) && !(bodyL l).any strC
/-- A text as a value: the fault; the value. -/
def readE (l : List UInt8) : Int :=
  if l = falseL ∨ l = trueL then 0
  else if l.head? = some 39 then (if quotB l = true then (if 20 < (bodyL l).length then 4 else 0) else 2)
  else match intL9 l with
    | some n => if n < -1000000 ∨ 1000000 < n then 1 else 0
    | none => 2
def readV (l : List UInt8) : Val :=
  if readE l ≠ 0 then ⟨0, 0, .empty⟩
  else if l = falseL then ⟨2, 0, .empty⟩ else if l = trueL then ⟨2, 1, .empty⟩
  else if l.head? = some 39 then ⟨3, 0, bs (bodyL l)⟩
  else match intL9 l with
    | some n => ⟨1, n, .empty⟩
    | none => ⟨0, 0, .empty⟩
theorem body_of (u : List UInt8) : bodyL (39 :: (dbl u ++ [39])) = u := by
  unfold bodyL
  have e : ((39 :: (dbl u ++ [39])).drop 1).take ((39 :: (dbl u ++ [39])).length - 2) = dbl u := by
    simp
  rw [e, halved]
theorem quot_of {u : List UInt8} (h : u.any strC = false) : quotB (39 :: (dbl u ++ [39])) = true := by
  unfold quotB
  rw [body_of, h]
  simp
/-- A text in quotes is one text's, doubled. -/
theorem quot_iff {l : List UInt8} : quotB l = true ↔ ∃ u, l = 39 :: (dbl u ++ [39]) ∧ u.any strC = false := by
  constructor
  · intro h
    unfold quotB at h
    simp only [Bool.and_eq_true, decide_eq_true_eq, Bool.not_eq_true'] at h
    exact ⟨_, h.1.2, h.2⟩
  · rintro ⟨u, rfl, h⟩; exact quot_of h
theorem empty_list : ByteArray.empty.toList = [] := by decide +kernel
theorem empty_iff (s : ByteArray) : s.toList.isEmpty = true ↔ s = .empty := by
  rw [List.isEmpty_iff]
  constructor
  · intro h
    rw [← bytes_eq, h, empty_list]
  · rintro rfl; exact empty_list
theorem val_parts {v : Val} (h : valE v = 0) : (v.ty = 1 ∧ -1000000 ≤ v.n ∧ v.n ≤ 1000000 ∧ v.s = .empty) ∨ (v.ty = 2 ∧ (v.n = 0 ∨ v.n = 1) ∧ v.s = .empty) ∨ (v.ty = 3 ∧ v.n = 0 ∧ v.s.size ≤ 20 ∧ v.s.data.toList.any strC = false) := by
  unfold valE at h
  split at h
  · rename_i ht
    split at h
    · cases h
    · rename_i hn
      split at h
      · cases h
      · rename_i hs
        split at h
        · cases h
        · rename_i hc
          have hsE : v.ty ≠ 3 → v.s = .empty := fun h3 => by
            rw [← empty_iff]
            cases hq : v.s.toList.isEmpty with
            | true => rfl
            | false => exact absurd (.inr ⟨h3, hq⟩) hc
          rcases ht with h1 | h1 | h1
          · left
            rw [h1] at hn
            unfold valLo valHi at hn
            simp at hn
            exact ⟨h1, by omega, by omega, hsE (by omega)⟩
          · right; left
            rw [h1] at hn
            unfold valLo valHi at hn
            simp at hn
            exact ⟨h1, by omega, hsE (by omega)⟩
          · right; right
            rw [h1] at hn
            unfold valLo valHi at hn
            simp at hn
            refine ⟨h1, by omega, ?_, ?_⟩
            · have : ¬ (20 < v.s.size) := fun e => hs ⟨h1, e⟩
              omega
            · cases hq : v.s.data.toList.any strC with
              | false => rfl
              | true => exact absurd (.inl hq) hc
  · cases h
theorem itoa_head (n : Int) : (Lib.itoa n).head? ≠ some 39 ∧ Lib.itoa n ≠ falseL ∧ Lib.itoa n ≠ trueL := by
  have hd : ∀ u, ∃ d r, Lib.decDigits u = UInt8.ofNat (48 + d) :: r ∧ d < 10 := fun u => by
    obtain ⟨d, r, e, hd, _⟩ := decDigits_head u
    exact ⟨d, r, e, hd⟩
  rcases itoa_cases n with ⟨u, _, e⟩ | ⟨u, _, _, e⟩
  · obtain ⟨d, r, e2, h⟩ := hd u
    rw [e, e2]
    refine ⟨fun h' => ofNat_ne h (c := 39) (.inl (by decide)) (Option.some.inj h'), fun h' => ?_, fun h' => ?_⟩
    · injection h' with h' _; exact ofNat_ne h (c := 102) (.inr (by decide)) h'
    · injection h' with h' _; exact ofNat_ne h (c := 116) (.inr (by decide)) h'
  · rw [e]
    refine ⟨fun h' => ?_, fun h' => ?_, fun h' => ?_⟩
    · have := Option.some.inj h'; exact absurd this (by decide)
    · injection h' with h' _; exact absurd h' (by decide)
    · injection h' with h' _; exact absurd h' (by decide)
/-- At most seven digits. -/
theorem itoa_small {n : Int} (h1 : -1000000 ≤ n) (h2 : n ≤ 1000000) : (Lib.trimPrefix (Lib.itoa n) [45]).length ≤ 9 ∧ (Lib.itoa n).length ≤ 10 := by
  have hd : ∀ u, u ≤ 1000000 → (Lib.decDigits u).length ≤ 7 := fun u hu => by
    rw [Lib.decDigits_length]
    rcases Nat.lt_or_ge (Lib.nDigits u) 8 with h | h
    · omega
    · have e : Lib.nDigits u ≤ 7 := by
        by_cases h7 : u < 10 ^ 6
        · by_cases h0 : u < 10
          · rw [Lib.nDigits_small h0]; omega
          · rcases Nat.lt_or_ge u (10 ^ 2) with a | a
            · rw [Lib.nDigits_unique 1 u (by omega) a]; omega
            · rcases Nat.lt_or_ge u (10 ^ 3) with a2 | a2
              · rw [Lib.nDigits_unique 2 u a a2]; omega
              · rcases Nat.lt_or_ge u (10 ^ 4) with a3 | a3
                · rw [Lib.nDigits_unique 3 u a2 a3]; omega
                · rcases Nat.lt_or_ge u (10 ^ 5) with a4 | a4
                  · rw [Lib.nDigits_unique 4 u a3 a4]; omega
                  · rw [Lib.nDigits_unique 5 u a4 h7]; omega
        · rw [Lib.nDigits_unique 6 u (by omega) (by have : (10 : Nat) ^ 7 = 10000000 := by decide
                                                    omega)]; omega
      omega
  rcases itoa_cases n with ⟨u, hu, e⟩ | ⟨u, _, hu, e⟩
  · have := hd u (by omega)
    rw [e, digits_trim]; exact ⟨by omega, by omega⟩
  · have := hd u (by omega)
    rw [e, minus_trim]; exact ⟨by omega, by simp; omega⟩
theorem show_text {v : Val} (h : v.ty = 3) : showL v = 39 :: (dbl v.s.data.toList ++ [39]) := by
  unfold showL; rw [if_neg (by omega), if_neg (by omega)]
/-- What is shown is read as it was. -/
theorem read_show {v : Val} (h : valE v = 0) : readE (showL v) = 0 ∧ readV (showL v) = v := by
  rcases val_parts h with ⟨h1, h2, h3, h4⟩ | ⟨h1, h2, h3⟩ | ⟨h1, h2, h3, h4⟩
  · have e : showL v = Lib.itoa v.n := by unfold showL; rw [if_pos h1]
    obtain ⟨k1, k2, k3⟩ := itoa_head v.n
    have hi : intL9 (Lib.itoa v.n) = some v.n := intL9_iff.2 ⟨rfl, (itoa_small h2 h3).1⟩
    have hE : readE (showL v) = 0 := by
      unfold readE
      rw [e, if_neg (fun h => h.elim k2 k3), if_neg k1, hi]
      show (if v.n < -1000000 ∨ 1000000 < v.n then (1 : Int) else 0) = 0
      rw [if_neg (by omega)]
    refine ⟨hE, ?_⟩
    unfold readV
    rw [if_neg (fun h => h hE), e, if_neg k2, if_neg k3, if_neg k1, hi]
    cases v
    simp only at h1 h4
    rw [h1, h4]
  · have e : showL v = if v.n = 1 then trueL else falseL := by unfold showL; rw [if_neg (by omega), if_pos h1]
    have hv : v = ⟨2, v.n, .empty⟩ := by cases v; simp only at h1 h3; rw [h1, h3]
    rcases h2 with h2 | h2
    · rw [h2] at e hv
      rw [if_neg (by omega)] at e
      have hE : readE (showL v) = 0 := by unfold readE; rw [e, if_pos (.inl rfl)]
      refine ⟨hE, ?_⟩
      unfold readV
      rw [if_neg (fun h => h hE), e, if_pos rfl, ← hv]
    · rw [h2] at e hv
      rw [if_pos rfl] at e
      have hE : readE (showL v) = 0 := by unfold readE; rw [e, if_pos (.inr rfl)]
      refine ⟨hE, ?_⟩
      unfold readV
      rw [if_neg (fun h => h hE), e, if_neg (by decide), if_pos rfl, ← hv]
  · have e := show_text h1
    have hne1 : 39 :: (dbl v.s.data.toList ++ [39]) ≠ falseL := fun h => by injection h with h _; exact absurd h (by decide)
    have hne2 : 39 :: (dbl v.s.data.toList ++ [39]) ≠ trueL := fun h => by injection h with h _; exact absurd h (by decide)
    have hh : (39 :: (dbl v.s.data.toList ++ [39])).head? = some 39 := rfl
    have hl : ¬ 20 < v.s.data.toList.length := by
      have : v.s.data.toList.length = v.s.size := by rw [Array.length_toList]; rfl
      omega
    have hE : readE (showL v) = 0 := by
      unfold readE
      rw [e, if_neg (fun h => h.elim hne1 hne2), if_pos hh, if_pos (quot_of h4), body_of, if_neg hl]
    refine ⟨hE, ?_⟩
    unfold readV
    rw [if_neg (fun h => h hE), e, if_neg hne1, if_neg hne2, if_pos hh, body_of, bs_of]
    cases v
    simp only at h1 h2
    rw [h1, h2]
/-- What is read is right, and shown as it was. -/
theorem show_read {l : List UInt8} (h : readE l = 0) : valE (readV l) = 0 ∧ showL (readV l) = l := by
  have hnE : ¬ readE l ≠ 0 := fun e => e h
  have hemp : ByteArray.empty.data.toList.any strC = false := rfl
  by_cases h1 : l = falseL
  · subst h1
    have e : readV falseL = ⟨2, 0, .empty⟩ := by unfold readV; rw [if_neg hnE, if_pos rfl]
    rw [e]; exact ⟨by decide +kernel, rfl⟩
  by_cases h2 : l = trueL
  · subst h2
    have e : readV trueL = ⟨2, 1, .empty⟩ := by unfold readV; rw [if_neg hnE, if_neg h1, if_pos rfl]
    rw [e]; exact ⟨by decide +kernel, rfl⟩
  by_cases h3 : l.head? = some 39
  · have e : readV l = ⟨3, 0, bs (bodyL l)⟩ := by unfold readV; rw [if_neg hnE, if_neg h1, if_neg h2, if_pos h3]
    unfold readE at h
    rw [if_neg (fun h => h.elim h1 h2), if_pos h3] at h
    cases hq : quotB l with
    | false => rw [hq] at h; simp at h
    | true =>
      rw [hq, if_pos rfl] at h
      have hlen : ¬ 20 < (bodyL l).length := fun e => by rw [if_pos e] at h; cases h
      unfold quotB at hq
      simp only [Bool.and_eq_true, decide_eq_true_eq, Bool.not_eq_true'] at hq
      rw [e]
      constructor
      · unfold valE valLo valHi
        simp only [bs_size, bs_list]
        rw [hq.2]
        simp
        omega
      · rw [show_text rfl]
        show 39 :: (dbl (bs (bodyL l)).data.toList ++ [39]) = l
        rw [bs_list]; exact hq.1.2.symm
  · unfold readE at h
    rw [if_neg (fun h => h.elim h1 h2), if_neg h3] at h
    cases hi : intL9 l with
    | none => rw [hi] at h; cases h
    | some n =>
      rw [hi] at h
      have h : (if n < -1000000 ∨ 1000000 < n then (1 : Int) else 0) = 0 := h
      have hn : ¬ (n < -1000000 ∨ 1000000 < n) := fun e => by rw [if_pos e] at h; cases h
      have e : readV l = ⟨1, n, .empty⟩ := by unfold readV; rw [if_neg hnE, if_neg h1, if_neg h2, if_neg h3, hi]
      rw [e]
      constructor
      · have he : ByteArray.empty.toList.isEmpty = true := (empty_iff _).2 rfl
        unfold valE valLo valHi
        simp only [hemp, he]
        simp
        omega
      · unfold showL
        rw [if_pos rfl]; exact (intL9_iff.1 hi).1
theorem readV_bad {l : List UInt8} (h : readE l ≠ 0) : readV l = ⟨0, 0, .empty⟩ := by unfold readV; rw [if_pos h]
open Go Go.RowKit Go.Sort
section
variable {P : Program} {ops : Array Oper} {md : Region.Mode} {C : World → Prop}

end
section
variable {P : Program} {ops : Array Oper} {md : Region.Mode} {C : World → Prop}

theorem quiet_mono {o : Oper} {K K' : Act → Prop} {a : Act} (h : ∀ a, K a → K' a) (hq : o.quiet P a C K) : o.quiet P a C K' := by
  unfold Oper.quiet at hq ⊢
  obtain ⟨v, h1, h2⟩ := hq
  exact ⟨v, h1, h _ h2⟩
end
open Go Go.RowKit

theorem addr_add (b o n : Nat) : (⟨b, o, none⟩ : Addr).add n = ⟨b, o + n, none⟩ := by
  unfold Addr.add
  split
  · rename_i h; subst h; rfl
  · rfl

/-! ### Lists -/
/-- What stands in the place of what it covers. -/
def lay {α : Type} (cur : List α) (o : Nat) (cs : List α) : List α := cur.take o ++ cs ++ cur.drop (o + cs.length)

section
variable {P : Program} (w : World) (B : Nat) (e tS tV tI : TypeId) (i0 : TypeInfo) (z : Value) (sz bytes : Nat)
  (hS : P.underlying tS = some (.slice e)) (hI : P.underlying tI = some (.int .i64)) (ei : P.info? e = some i0) (ez : i0.zero = some z) (ez1 : i0.size = sz) (ez2 : i0.bytes = bytes) (hzs : z.cells.size = sz) (hsz : 0 < sz) (hby : bytes ≤ 4096)
  (g o n cap : Nat) (xs : List Value) (hown : Own w B e sz (.slice (some ⟨g, o, none⟩) n cap) n xs) (i : Nat) (hi : i < n) (hn : n ≤ 1000000)
  (vb : Nat) (cs : List Value) (hcl : cs.length = sz) (hcs : w.heap[vb]? = some (.cells cs.toArray e (0, 0))) (h1 : ∀ u ∈ cs, u.oneCell' = true) (hx1 : ∀ u ∈ xs, u.oneCell' = true)
include hS ei ez1 hown hi hcl hcs h1 hx1 hsz

include hI ez ez2 hzs hby hn in
omit h1 hx1 in
end

open Go.RowKit

/-- The fault of the first that has one; 0: none has. -/
def firstE {D : Type} (f : D → Int) : List D → Int
  | [] => 0
  | d :: r => if f d = 0 then firstE f r else f d
theorem firstE_hit {D : Type} {f : D → Int} : ∀ {l : List D} {k : Nat} {d : D}, (∀ j x, j < k → l[j]? = some x → f x = 0) → l[k]? = some d → f d ≠ 0 → firstE f l = f d
  | a :: r, 0, d, _, h2, h3 => by
    simp at h2
    subst h2
    simp [firstE, h3]
  | a :: r, k + 1, d, h1, h2, h3 => by
    have h0 : f a = 0 := h1 0 a (by omega) rfl
    simp only [firstE, h0, if_true]
    exact firstE_hit (l := r) (k := k) (fun j x hj hx => h1 (j + 1) x (by omega) (by simpa using hx)) (by simpa using h2) h3
theorem firstE_none {D : Type} {f : D → Int} : ∀ {l : List D}, (∀ j x, j < l.length → l[j]? = some x → f x = 0) → firstE f l = 0
  | [], _ => rfl
  | a :: r, h1 => by
    have h0 : f a = 0 := h1 0 a (by simp) rfl
    simp only [firstE, h0, if_true]
    exact firstE_none (l := r) (fun j x hj hx => h1 (j + 1) x (by simpa using hj) (by simpa using hx))
theorem zero_step {D : Type} {f : D → Int} {l : List D} {k : Nat} {d : D} (h1 : ∀ j x, j < k → l[j]? = some x → f x = 0) (h2 : l[k]? = some d) (h3 : f d = 0) : ∀ j x, j < k + 1 → l[j]? = some x → f x = 0 := by
  intro j x hj hx
  by_cases e : j = k
  · subst e
    have := h2.symm.trans hx
    cases this
    exact h3
  · exact h1 j x (by omega) hx

/-- Each is ahead of the next one. -/
def chain {D : Type} (R : D → D → Bool) : List D → Bool
  | a :: b :: r => R a b && chain R (b :: r)
  | _ => true
/-- Is a text ahead of another one? -/
def ltS (a b : ByteArray) : Bool := Op.bytesLess a.toList b.toList

/-! ### record.prop, record.Check -/
def prpE (p : Prp) : Int := if nameE p.name = 0 then valE p.v else nameE p.name
def recE (r : List Prp) : Int := if 8 < r.length then 4 else if firstE prpE r = 0 then (if chain (fun a b => ltS a.name b.name) r then 0 else 7) else firstE prpE r



/-! ### graph.OfNode, graph.OfTie, graph.Order -/

theorem cell_box3 (w : World) (a b c : Value) (t : TypeId) : (w.alloc (.cells #[a, b, c] t)).cell? ⟨w.heap.size, 0, none⟩ = some a ∧ (w.alloc (.cells #[a, b, c] t)).cell? ⟨w.heap.size, 1, none⟩ = some b ∧
    (w.alloc (.cells #[a, b, c] t)).cell? ⟨w.heap.size, 2, none⟩ = some c :=
  ⟨by rw [World.cell?_alloc_at _ _ _ _ rfl]; rfl, by rw [World.cell?_alloc_at _ _ _ _ rfl]; rfl, by rw [World.cell?_alloc_at _ _ _ _ rfl]; rfl⟩


/-! ### Nodes by number -/
/-! ### Properties by name -/

section
variable {D : Type} {n : Nat} {enc : D → List Value}
theorem flat_get (hn : ∀ d, (enc d).length = n) : ∀ {l : List D} {i j : Nat} {d : D} {u : Value}, l[i]? = some d → (enc d)[j]? = some u → (l.flatMap enc)[i * n + j]? = some u
  | [], i, j, d, u, h, _ => by simp at h
  | a :: l, 0, j, d, u, h, hu => by
    simp at h; subst h
    rw [List.flatMap_cons, Nat.zero_mul, Nat.zero_add, List.getElem?_append_left (List.getElem?_eq_some_iff.1 hu).1]; exact hu
  | a :: l, i + 1, j, d, u, h, hu => by
    rw [List.flatMap_cons, List.getElem?_append_right (by rw [hn, Nat.add_mul]; omega), hn]
    have : (i + 1) * n + j - n = i * n + j := by rw [Nat.add_mul]; omega
    rw [this]
    exact flat_get hn (by simpa using h) hu
theorem flat_snoc (l : List D) (d : D) : l.flatMap enc ++ enc d = (l ++ [d]).flatMap enc := by simp
theorem Own.flat {w : World} {B : Nat} {e : TypeId} {v : Value} {l : List D} {ok : D → Prop} (hn : ∀ d, (enc d).length = n) (hl : ∀ x ∈ l, ok x) (h : Own w B e n v l.length (l.flatMap enc)) : Sl (flatL n ok enc hn) w v l := by
  obtain ⟨A, c, rfl, h1, h2⟩ := h.form
  refine ⟨A, c, rfl, h1, h2, fun i d hi => ?_⟩
  obtain ⟨g, o, c', hv, _, _⟩ := h.addr (len_pos hi)
  injection hv with hA _ hc
  subst hA; subst hc
  exact ⟨g, o, _, rfl, ⟨rfl, hl d (List.mem_of_getElem? hi)⟩, fun j u hj => h.cell rfl (flat_get hn hi hj)⟩
end
theorem Prp.enc_len (d : Prp) : d.enc.length = 4 := rfl
theorem Tie.enc_len (d : Tie) : d.enc.length = 3 := rfl
theorem Own.ties {w : World} {B : Nat} {e : TypeId} {v : Value} {l : List Tie} (h : Own w B e 3 v l.length (l.flatMap Tie.enc)) (hl : ∀ x ∈ l, x.ok) : Sl tieL w v l := h.flat Tie.enc_len hl
end Go.Proofs.YtakidgndipnciaaDoor
