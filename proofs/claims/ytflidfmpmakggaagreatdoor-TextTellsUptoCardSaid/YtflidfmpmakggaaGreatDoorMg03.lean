/- Parts: Qr, KinA, KinB, KinC, KinD, Eqs, VtV, VqP, DgA, Qt. -/
import Derived.Sort.BigQuietIn
import Derived.Test.YtflidfmpmakggaaGreatDoorMg01
import Derived.Test.YtflidfmpmakggaaGreatDoorMg02
import Derived.Maps.OwnIn
import Derived.Maps.Views
import Derived.StringKeys
import Derived.Test.YtflidfmpmakggaaGreatDoorRows
import Derived.RangeFuncNested
import Derived.RangeFuncBound
import Derived.RangeFuncCalls
import Derived.RangeFuncLeaves
import Derived.RangeFuncBox
import Derived.RangeFuncWrites
import Derived.Shelf.Abstract
import Derived.OwnWalkIn
import Derived.TacticsInMore
import Derived.LoopNIn
import Derived.LoopIn
import Derived.Laws.StructEq
import Derived.IntWalk
import Derived.StillTail
import Derived.BigQuiet
import Derived.Lib.QuietBelow
/- A region that draws its order, inside a round of a range over a function: one walk in the order of the text serves every order where the operations only read. Conditions: the Bools on the region. -/
namespace Go.Proofs.YtflidfmpmakggaaGreatDoor
open Go Go.RowKit Go.BigFrame

section
variable {F : Fence} {n : Nat} {P : Program} {ops : Array Oper} {md : Region.Mode} {C : World → Prop}
end
open Go Go.RowKit
open Go.Maps (Keyed)

/-! ### Kin -/
/-- What comes of a kind is looked at once more: whoever it comes of. -/
def kinStep (S : ByteArray → Bool) (k : Knd) : ByteArray → Bool := if S k.name = true then fun s => S s || k.ofs.any (fun o => decide (o = s)) else S
def kinSet (l : List Knd) (name : ByteArray) : ByteArray → Bool := l.foldr (fun k S => kinStep S k) (fun s => decide (name = s))
def kinL (l : List Knd) (name : ByteArray) : List ByteArray := (l.filter fun k => kinSet l name k.name).map (·.name)

/-! ### A set of texts in memory -/
open Go Go.RowKit Go.Shelf

attribute [local go_sem] Oper.semAt_some


attribute [local go_sem] Oper.semAt_some

/-- append onto an owned slice, inside a fence. -/
theorem wpListIn_append_q {F : Fence} {n0 : Nat} {P : Program} (w : World) {ops : Array Oper} {rest : List Oper} {o : Oper} {a : Act} {Q : Exit → Act → World → Prop} (hgd : o.guard = none) (s x : Operand) (t : TypeId)
    (ho : o.op = .call { callee := .builtin .append, args := #[s, x], argTypes := #[t, t] })
    (B : Nat) (e : TypeId) (i : TypeInfo) (z : Value) (size bytes : Nat) (ht : P.underlying t = some (.slice e)) (hi : P.info? e = some i) (hz : i.zero = some z)
    (hsize : i.size = size) (hby : i.bytes = bytes) (hzs : z.cells.size = size) (hsz : 0 < size)
    (v : Value) (n : Nat) (xs : List Value) (hs : a.eval s = v) (hown : Own w B e size v n xs)
    (A : Option Addr) (m c : Nat) (news : List Value) (hx : a.eval x = .slice A m c) (hl : news.length = m * size) (hA : 0 < m → ∃ a, A = some a ∧ ∀ j u, news[j]? = some u → w.cell? (a.add j) = some u) (h1 : ∀ u ∈ news, u.oneCell' = true)
    (h63 : n + m ≤ maxLen) (hbytes : (n + m) * bytes ≤ 140737488355328) (hbase : B ≤ w.heap.size)
    (h : ∀ v' w', Own w' B e size v' (n + m) (xs ++ news) → w.grownBy w' v.ownBlock → (v'.ownBlock = v.ownBlock ∨ v'.ownBlock = some w.heap.size) → wpListIn F n0 P ops Q rest (a.put o.dst v') w') : wpListIn F n0 P ops Q (o :: rest) a w := by
  refine wpListIn_plain hgd fun K hK' => ?_
  obtain ⟨v', w', hr, h2, h3, h4⟩ := run_append_q (P := P) w B t o.type e i z size bytes ht hi hz hsize hby hzs hsz v n xs hown A m c news hl hA h1 h63 hbytes hbase
  unfold Oper.wpIn
  refine ⟨?_, ?_⟩
  · simp [Oper.about, ho, resolve, Target.leads, Sem.run_pure]
  · rw [Oper.semAt_plain F _ _ (by rw [ho]; intro c hc'; cases hc')]
    simp [execOp, ho, resolve, invoke, builtin, hs, hx, hr, Result.andThen]
    exact hK' _ _ (h v' w' h2 h3 h4)
theorem str_info : (Tryz.prog.info? 9).map (fun i => (i.zero, i.size, i.bytes)) = some (some (.string .empty), 1, 16) := by kernel_rfl

open Go.RowKit

theorem bytes_beq (a b : ByteArray) : (a.toList == b.toList) = decide (a = b) := by
  rw [Bool.eq_iff_iff, beq_iff_eq, decide_eq_true_eq]
  constructor
  · intro h
    rw [ByteArray.toList_eq, ByteArray.toList_eq] at h
    have := Array.toList_inj.1 h
    cases a; cases b; simp at this; rw [this]
  · intro h; rw [h]

/-! ### kind.Find -/

theorem bytes_eq (a b : ByteArray) : (a.toList = b.toList) = (a = b) := by
  have := bytes_beq a b
  apply propext
  constructor
  · intro h; rw [h] at this; simpa using this.symm
  · intro h; rw [h]
open Go

def bs (l : List UInt8) : ByteArray := ⟨l.toArray⟩
theorem bs_list (l : List UInt8) : (bs l).data.toList = l := by simp [bs]
theorem bs_size (l : List UInt8) : (bs l).size = l.length := by simp [bs, ByteArray.size]
theorem bs_of (s : ByteArray) : bs s.data.toList = s := by cases s; simp [bs]
theorem bs_append (a b : List UInt8) : bs a ++ bs b = bs (a ++ b) := by
  apply ByteArray.ext
  simp [bs]
def trueL : List UInt8 := [116, 114, 117, 101]
def falseL : List UInt8 := [102, 97, 108, 115, 101]
/-- A value that is right, as text. -/
def showL (v : Val) : List UInt8 := if v.ty = 1 then Lib.itoa v.n else if v.ty = 2 then (if v.n = 1 then trueL else falseL) else 39 :: (dbl v.s.data.toList ++ [39])
/-- What stands between quotes. -/
def bodyL (l : List UInt8) : List UInt8 := Lib.replaceAll ((l.drop 1).take (l.length - 2)) [39, 39] [39]
def quotB (l : List UInt8) : Bool := decide (2 ≤ l.length) && decide (l = 39 :: (dbl (bodyL l) ++ [39])) && !(bodyL l).any strC
/-- A text as a value: the fault; the value. -/
def readE (l : List UInt8) : Int :=
  if l = falseL ∨ l = trueL then 0
  else if l.head? = some 39 then (if quotB l = true then (if 20 < (bodyL l).length then 4 else 0) else 2)
  else match intL9 l with
    | some n => if n < -1000000 ∨ 1000000 < n then 1 else 0
    | none => 2
def readV (l : List UInt8) : Val :=
  if readE l ≠ 0 then ⟨0, 0, .empty⟩
  else if l = falseL then ⟨2, 0, .empty⟩ else if l = trueL then ⟨2, 1, .empty⟩
  else if l.head? = some 39 then ⟨3, 0, bs (bodyL l)⟩
  else match intL9 l with
    | some n => ⟨1, n, .empty⟩
    | none => ⟨0, 0, .empty⟩
theorem body_of (u : List UInt8) : bodyL (39 :: (dbl u ++ [39])) = u := by
  unfold bodyL
  have e : ((39 :: (dbl u ++ [39])).drop 1).take ((39 :: (dbl u ++ [39])).length - 2) = dbl u := by
    simp
  rw [e, halved]
theorem quot_of {u : List UInt8} (h : u.any strC = false) : quotB (39 :: (dbl u ++ [39])) = true := by
  unfold quotB
  rw [body_of, h]
  simp
/-- A text in quotes is one text's, doubled. -/
theorem quot_iff {l : List UInt8} : quotB l = true ↔ ∃ u, l = 39 :: (dbl u ++ [39]) ∧ u.any strC = false := by
  constructor
  · intro h
    unfold quotB at h
    simp only [Bool.and_eq_true, decide_eq_true_eq, Bool.not_eq_true'] at h
    exact ⟨_, h.1.2, h.2⟩
  · rintro ⟨u, rfl, h⟩; exact quot_of h
theorem empty_list : ByteArray.empty.toList = [] := by decide +kernel
theorem empty_iff (s : ByteArray) : s.toList.isEmpty = true ↔ s = .empty := by
  rw [List.isEmpty_iff]
  constructor
  · intro h
    rw [← bytes_eq, h, empty_list]
  · rintro rfl; exact empty_list
theorem val_parts {v : Val} (h : valE v = 0) : (v.ty = 1 ∧ -1000000 ≤ v.n ∧ v.n ≤ 1000000 ∧ v.s = .empty) ∨ (v.ty = 2 ∧ (v.n = 0 ∨ v.n = 1) ∧ v.s = .empty) ∨ (v.ty = 3 ∧ v.n = 0 ∧ v.s.size ≤ 20 ∧ v.s.data.toList.any strC = false) := by
  unfold valE at h
  split at h
  · rename_i ht
    split at h
    · cases h
    · rename_i hn
      split at h
      · cases h
      · rename_i hs
        split at h
        · cases h
        · rename_i hc
          have hsE : v.ty ≠ 3 → v.s = .empty := fun h3 => by
            rw [← empty_iff]
            cases hq : v.s.toList.isEmpty with
            | true => rfl
            | false => exact absurd (.inr ⟨h3, hq⟩) hc
          rcases ht with h1 | h1 | h1
          · left
            rw [h1] at hn
            unfold valLo valHi at hn
            simp at hn
            exact ⟨h1, by omega, by omega, hsE (by omega)⟩
          · right; left
            rw [h1] at hn
            unfold valLo valHi at hn
            simp at hn
            exact ⟨h1, by omega, hsE (by omega)⟩
          · right; right
            rw [h1] at hn
            unfold valLo valHi at hn
            simp at hn
            refine ⟨h1, by omega, ?_, ?_⟩
            · have : ¬ (20 < v.s.size) := fun e => hs ⟨h1, e⟩
              omega
            · cases hq : v.s.data.toList.any strC with
              | false => rfl
              | true => exact absurd (.inl hq) hc
  · cases h
/-- At most seven digits. -/
theorem itoa_small {n : Int} (h1 : -1000000 ≤ n) (h2 : n ≤ 1000000) : (Lib.trimPrefix (Lib.itoa n) [45]).length ≤ 9 ∧ (Lib.itoa n).length ≤ 10 := by
  have hd : ∀ u, u ≤ 1000000 → (Lib.decDigits u).length ≤ 7 := fun u hu => by
    rw [Lib.decDigits_length]
    rcases Nat.lt_or_ge (Lib.nDigits u) 8 with h | h
    · omega
    · have e : Lib.nDigits u ≤ 7 := by
        by_cases h7 : u < 10 ^ 6
        · by_cases h0 : u < 10
          · rw [Lib.nDigits_small h0]; omega
          · rcases Nat.lt_or_ge u (10 ^ 2) with a | a
            · rw [Lib.nDigits_unique 1 u (by omega) a]; omega
            · rcases Nat.lt_or_ge u (10 ^ 3) with a2 | a2
              · rw [Lib.nDigits_unique 2 u a a2]; omega
              · rcases Nat.lt_or_ge u (10 ^ 4) with a3 | a3
                · rw [Lib.nDigits_unique 3 u a2 a3]; omega
                · rcases Nat.lt_or_ge u (10 ^ 5) with a4 | a4
                  · rw [Lib.nDigits_unique 4 u a3 a4]; omega
                  · rw [Lib.nDigits_unique 5 u a4 h7]; omega
        · rw [Lib.nDigits_unique 6 u (by omega) (by have : (10 : Nat) ^ 7 = 10000000 := by decide
                                                    omega)]; omega
      omega
  rcases itoa_cases n with ⟨u, hu, e⟩ | ⟨u, _, hu, e⟩
  · have := hd u (by omega)
    rw [e, digits_trim]; exact ⟨by omega, by omega⟩
  · have := hd u (by omega)
    rw [e, minus_trim]; exact ⟨by omega, by simp; omega⟩
theorem show_text {v : Val} (h : v.ty = 3) : showL v = 39 :: (dbl v.s.data.toList ++ [39]) := by
  unfold showL; rw [if_neg (by omega), if_neg (by omega)]
/-- What is read is right, and shown as it was. -/
theorem show_read {l : List UInt8} (h : readE l = 0) : valE (readV l) = 0 ∧ showL (readV l) = l := by
  have hnE : ¬ readE l ≠ 0 := fun e => e h
  have hemp : ByteArray.empty.data.toList.any strC = false := rfl
  by_cases h1 : l = falseL
  · subst h1
    have e : readV falseL = ⟨2, 0, .empty⟩ := by unfold readV; rw [if_neg hnE, if_pos rfl]
    rw [e]; exact ⟨by decide +kernel, rfl⟩
  by_cases h2 : l = trueL
  · subst h2
    have e : readV trueL = ⟨2, 1, .empty⟩ := by unfold readV; rw [if_neg hnE, if_neg h1, if_pos rfl]
    rw [e]; exact ⟨by decide +kernel, rfl⟩
  by_cases h3 : l.head? = some 39
  · have e : readV l = ⟨3, 0, bs (bodyL l)⟩ := by unfold readV; rw [if_neg hnE, if_neg h1, if_neg h2, if_pos h3]
    unfold readE at h
    rw [if_neg (fun h => h.elim h1 h2), if_pos h3] at h
    cases hq : quotB l with
    | false => rw [hq] at h; simp at h
    | true =>
      rw [hq, if_pos rfl] at h
      have hlen : ¬ 20 < (bodyL l).length := fun e => by rw [if_pos e] at h; cases h
      unfold quotB at hq
      simp only [Bool.and_eq_true, decide_eq_true_eq, Bool.not_eq_true'] at hq
      rw [e]
      constructor
      · unfold valE valLo valHi
        simp only [bs_size, bs_list]
        rw [hq.2]
        simp
        omega
      · rw [show_text rfl]
        show 39 :: (dbl (bs (bodyL l)).data.toList ++ [39]) = l
        rw [bs_list]; exact hq.1.2.symm
  · unfold readE at h
    rw [if_neg (fun h => h.elim h1 h2), if_neg h3] at h
    cases hi : intL9 l with
    | none => rw [hi] at h; cases h
    | some n =>
      rw [hi] at h
      have h : (if n < -1000000 ∨ 1000000 < n then (1 : Int) else 0) = 0 := h
      have hn : ¬ (n < -1000000 ∨ 1000000 < n) := fun e => by rw [if_pos e] at h; cases h
      have e : readV l = ⟨1, n, .empty⟩ := by unfold readV; rw [if_neg hnE, if_neg h1, if_neg h2, if_neg h3, hi]
      rw [e]
      constructor
      · have he : ByteArray.empty.toList.isEmpty = true := (empty_iff _).2 rfl
        unfold valE valLo valHi
        simp only [hemp, he]
        simp
        omega
      · unfold showL
        rw [if_pos rfl]; exact (intL9_iff.1 hi).1
theorem readV_bad {l : List UInt8} (h : readE l ≠ 0) : readV l = ⟨0, 0, .empty⟩ := by unfold readV; rw [if_pos h]

/-- What the reference reads behind a quote; none: it is no text. -/
def qrd : List UInt8 → Option (List UInt8)
  | [] => none
  | [c] => if strC c = true then none else if c = 39 then some [] else none
  | c :: d :: m => if strC c = true then none else if c = 39 then (if d = 39 then (qrd m).map (39 :: ·) else none) else (qrd (d :: m)).map (c :: ·)
theorem qrd_bad {c : UInt8} (l : List UInt8) (h : strC c = true) : qrd (c :: l) = none := by
  cases l with
  | nil => rw [qrd, if_pos h]
  | cons d m => rw [qrd, if_pos h]
theorem qrd_end : qrd [39] = some [] := by rw [qrd, if_neg (by decide), if_pos rfl]
theorem qrd_wrong {d : UInt8} (m : List UInt8) (h : d ≠ 39) : qrd (39 :: d :: m) = none := by rw [qrd, if_neg (by decide), if_pos rfl, if_neg h]
theorem qrd_quote (m : List UInt8) : qrd (39 :: 39 :: m) = (qrd m).map (39 :: ·) := by rw [qrd, if_neg (by decide), if_pos rfl, if_pos rfl]
theorem qrd_plain {c : UInt8} (l : List UInt8) (h : strC c = false) (h2 : c ≠ 39) : qrd (c :: l) = (qrd l).map (c :: ·) := by
  cases l with
  | nil =>
    show (if strC c = true then none else if c = 39 then some [] else none) = _
    rw [if_neg (by rw [h]; simp), if_neg h2]; rfl
  | cons d m => rw [qrd, if_neg (by rw [h]; simp), if_neg h2]
theorem qrd_dbl : ∀ u : List UInt8, u.any strC = false → qrd (dbl u ++ [39]) = some u
  | [], _ => qrd_end
  | c :: u, h => by
    rw [List.any_cons, Bool.or_eq_false_iff] at h
    have ih := qrd_dbl u h.2
    rw [dbl_cons]
    by_cases hc : c = 39
    · subst hc
      rw [if_pos rfl]
      show qrd (39 :: 39 :: (dbl u ++ [39])) = _
      rw [qrd_quote, ih]; rfl
    · rw [if_neg hc]
      show qrd (c :: (dbl u ++ [39])) = _
      rw [qrd_plain _ h.1 hc, ih]; rfl
theorem qrd_of : ∀ (n : Nat) (r u : List UInt8), r.length ≤ n → qrd r = some u → r = dbl u ++ [39] ∧ u.any strC = false
  | _, [], u, _, h => by rw [qrd] at h; cases h
  | 0, _ :: _, _, hn, _ => by simp at hn
  | n + 1, c :: l, u, hn, h => by
    cases hs : strC c with
    | true => rw [qrd_bad l hs] at h; cases h
    | false =>
      by_cases hc : c = 39
      · subst hc
        cases l with
        | nil => rw [qrd_end] at h; obtain rfl := Option.some.inj h; exact ⟨rfl, rfl⟩
        | cons d m =>
          by_cases hd : d = 39
          · subst hd
            rw [qrd_quote] at h
            obtain ⟨v, hv, rfl⟩ := Option.map_eq_some_iff.1 h
            obtain ⟨e, k⟩ := qrd_of n m v (by simp at hn; omega) hv
            refine ⟨?_, ?_⟩
            · rw [dbl_quote, e]; rfl
            · rw [List.any_cons, hs, k]; rfl
          · rw [qrd_wrong m hd] at h; cases h
      · rw [qrd_plain l hs hc] at h
        obtain ⟨v, hv, rfl⟩ := Option.map_eq_some_iff.1 h
        obtain ⟨e, k⟩ := qrd_of n l v (by simp at hn; omega) hv
        refine ⟨?_, ?_⟩
        · rw [dbl_cons, if_neg hc, e]; rfl
        · rw [List.any_cons, hs, k]; rfl
theorem quot_qrd (r : List UInt8) : (quotB (39 :: r) = true ↔ ∃ u, qrd r = some u) ∧ ∀ u, qrd r = some u → bodyL (39 :: r) = u := by
  constructor
  · rw [quot_iff]
    constructor
    · rintro ⟨u, e, h⟩
      injection e with _ e
      exact ⟨u, by rw [e]; exact qrd_dbl u h⟩
    · rintro ⟨u, h⟩
      obtain ⟨e, k⟩ := qrd_of _ r u (Nat.le_refl _) h
      exact ⟨u, by rw [e], k⟩
  · intro u h
    obtain ⟨e, k⟩ := qrd_of _ r u (Nat.le_refl _) h
    rw [e, body_of]
theorem head_words {r : List UInt8} : ¬ (39 :: r = falseL ∨ 39 :: r = trueL) := by
  rintro (h | h) <;> (injection h with h _; exact absurd h (by decide))
theorem read_quote (r : List UInt8) : readE (39 :: r) = (match qrd r with | none => 2 | some u => if 20 < u.length then 4 else 0) := by
  obtain ⟨h1, h2⟩ := quot_qrd r
  unfold readE
  rw [if_neg head_words, if_pos (show (39 :: r : List UInt8).head? = some 39 from rfl)]
  cases hq : qrd r with
  | none =>
    rw [if_neg (fun e => by obtain ⟨u, hu⟩ := h1.1 e; rw [hq] at hu; cases hu)]
  | some u =>
    rw [if_pos (h1.2 ⟨u, hq⟩), h2 u hq]
theorem readV_quote {r u : List UInt8} (h : qrd r = some u) (hl : ¬ 20 < u.length) : readV (39 :: r) = ⟨3, 0, bs u⟩ := by
  have hE : readE (39 :: r) = 0 := by rw [read_quote, h]; exact if_neg hl
  unfold readV
  rw [if_neg (fun e => e hE), if_neg (fun e => head_words (.inl e)), if_neg (fun e => head_words (.inr e)), if_pos (show (39 :: r : List UInt8).head? = some 39 from rfl), (quot_qrd r).2 u h]
/-- A text that is no word and has no quote at its head. -/
theorem read_num {l : List UInt8} (h1 : ¬ (l = falseL ∨ l = trueL)) (h2 : l.head? ≠ some 39) : readE l = (match intL9 l with | some n => if n < -1000000 ∨ 1000000 < n then 1 else 0 | none => 2) ∧ ∀ n, intL9 l = some n → readE l = 0 → readV l = ⟨1, n, .empty⟩ := by
  constructor
  · unfold readE
    rw [if_neg h1, if_neg h2]
    all_goals (cases intL9 l <;> rfl)
  · intro n hn hE
    unfold readV
    rw [if_neg (fun e => e hE), if_neg (fun e => h1 (.inl e)), if_neg (fun e => h1 (.inr e)), if_neg h2, hn]
/-- Digit by digit. -/
theorem decFrom_bad {l : List UInt8} {x : UInt8} {n : Nat} (h : Lib.digitVal x = none) : Lib.decFrom n (x :: l) = none := by rw [decFrom_cons, h]
theorem decFrom_good {l : List UInt8} {x : UInt8} {n d : Nat} (h : Lib.digitVal x = some d) : Lib.decFrom n (x :: l) = Lib.decFrom (n * 10 + d) l := by rw [decFrom_cons, h]
theorem digit_none {x : UInt8} (h : x.toNat < 48 ∨ 57 < x.toNat) : Lib.digitVal x = none := by
  unfold Lib.digitVal
  rw [if_neg (by omega)]
theorem digit_some {x : UInt8} (h1 : 48 ≤ x.toNat) (h2 : x.toNat ≤ 57) : Lib.digitVal x = some (x.toNat - 48) := by
  unfold Lib.digitVal
  rw [if_pos ⟨h1, h2⟩]
theorem drop_cons_of {l : List UInt8} {k : Nat} {x : UInt8} (h : l[k]? = some x) : l.drop k = x :: l.drop (k + 1) := by
  obtain ⟨hk, e⟩ := List.getElem?_eq_some_iff.1 h
  rw [List.drop_eq_getElem_cons hk, e]

theorem dig_len {u : Nat} (h : u ≤ 1000000) : (Lib.decDigits u).length ≤ 9 := by
  have := (itoa_small (n := (u : Int)) (by omega) (by omega)).1
  rw [itoa_nat, digits_trim] at this; exact this
theorem dec_big {u : Nat} (h : ¬ u < 10) : Lib.decDigits u = Lib.decDigits (u / 10) ++ Lib.decDigits (u % 10) := by
  rw [Lib.decDigits_one (show u % 10 < 10 by omega)]
  conv => lhs; rw [Lib.decDigits]
  rw [dif_neg h]
theorem dec_text {u : Nat} (h : u < 10) : (⟨#[48, 49, 50, 51, 52, 53, 54, 55, 56, 57]⟩ : ByteArray).extract u (u + 1) = bs (Lib.decDigits u) := by
  rw [Lib.decDigits_one h]
  rcases (by omega : u = 0 ∨ u = 1 ∨ u = 2 ∨ u = 3 ∨ u = 4 ∨ u = 5 ∨ u = 6 ∨ u = 7 ∨ u = 8 ∨ u = 9) with rfl | rfl | rfl | rfl | rfl | rfl | rfl | rfl | rfl | rfl <;> decide +kernel
set_option maxRecDepth 100000 in
set_option maxHeartbeats 2000000 in
theorem dig_pos : ∀ (u : Nat), u ≤ 1000000 → ∀ w : World, Calls Tryz.prog 44 #[.int .i64 (u : Int)] w fun e w' => e = .returned (.string (bs (Lib.decDigits u))) ∧ Below w.heap.size w w' := by
  intro u
  induction u using Nat.strongRecOn with
  | ind u ih =>
  intro hu w
  by_cases h10 : u < 10
  · have HE := Lib.hid (dec_text h10)
    have h10' : (u : Int) < 10 := by omega
    clear ih
    go_enter Tryz.func44, Tryz.ntmps44
    go_wp2_with fail
    go_ret
    exact ⟨by rw [← HE.out]; rfl, Below.refl _ _⟩
  · have hx := ih (u / 10) (by omega) (by omega) w
    have HY := Lib.hid (ih (u % 10) (by omega) (by omega))
    have HE := Lib.hid (dec_big h10)
    have h10' : ¬ (u : Int) < 10 := by omega
    have e1 : (u : Int) / 10 = ((u / 10 : Nat) : Int) := by omega
    have e2 : (u : Int) % 10 = ((u % 10 : Nat) : Int) := by omega
    have E1 := Lib.hid e1
    have E2 := Lib.hid e2
    have l1 := dig_len (u := u / 10) (by omega)
    have l2 := dig_len (u := u % 10) (by omega)
    have s1 : (bs (Lib.decDigits (u / 10))).size ≤ 9 := by rw [bs_size]; exact l1
    have s2 : (bs (Lib.decDigits (u % 10))).size ≤ 9 := by rw [bs_size]; exact l2
    clear ih l1 l2 e1 e2
    go_enter Tryz.func44, Tryz.ntmps44
    go_wp2_with fail
    rw [E1.out]
    refine hx.mono ?_
    clear hx
    rintro e w1 ⟨rfl, hb1⟩
    go_wp2_with fail
    rw [E2.out]
    refine (HY.out w1).mono ?_
    rintro e w2 ⟨rfl, hb2⟩
    generalize hA : bs (Lib.decDigits (u / 10)) = A at *
    generalize hB : bs (Lib.decDigits (u % 10)) = B at *
    have HA := Lib.hid hA
    have HB := Lib.hid hB
    have hsum : ¬ 9223372036854775807 < A.size + B.size := by omega
    clear hA hB
    go_wp2_with fail
    go_ret
    exact ⟨by rw [HE.out, ← bs_append, HA.out, HB.out]; rfl, hb1.trans (hb2.mono hb1.size)⟩
set_option maxHeartbeats 2000000 in
theorem dig_neg : ∀ (u : Nat), 0 < u → u ≤ 1000000 → ∀ w : World, Calls Tryz.prog 44 #[.int .i64 (-(u : Int))] w fun e w' => e = .returned (.string (bs (45 :: Lib.decDigits u))) ∧ Below w.heap.size w w' := by
  intro u
  induction u using Nat.strongRecOn with
  | ind u ih =>
  intro h0 hu w
  have hlt : -(u : Int) < 0 := by omega
  by_cases h9 : u ≤ 9
  · have hx := dig_pos u hu w
    have h9' : ¬ -(u : Int) < -9 := by omega
    have s1 : (bs (Lib.decDigits u)).size ≤ 9 := by rw [bs_size]; exact dig_len hu
    have HE : Hid (bs (45 :: Lib.decDigits u) = bs [45] ++ bs (Lib.decDigits u)) := by unfold Hid; rw [bs_append]; rfl
    clear ih
    generalize hA : bs (Lib.decDigits u) = A at *
    clear hA
    have hsum : ¬ 9223372036854775807 < 1 + A.size := by omega
    go_enter Tryz.func44, Tryz.ntmps44
    go_wp2_with fail
    refine hx.mono ?_
    clear hx
    rintro e w1 ⟨rfl, hb1⟩
    go_wp2_with fail
    go_ret
    exact ⟨by rw [HE.out]; rfl, hb1⟩
  · have hx := ih (u / 10) (by omega) (by omega) (by omega) w
    have HY := Lib.hid (dig_pos (u % 10) (by omega))
    have HE := Lib.hid (dec_big (u := u) (by omega))
    have h9' : -(u : Int) < -9 := by omega
    have l1 := dig_len (u := u / 10) (by omega)
    have l2 := dig_len (u := u % 10) (by omega)
    have s1 : (bs (45 :: Lib.decDigits (u / 10))).size ≤ 10 := by rw [bs_size]; simp; omega
    have s2 : (bs (Lib.decDigits (u % 10))).size ≤ 9 := by rw [bs_size]; exact l2
    have e1 : -((u : Int) / 10) = -((u / 10 : Nat) : Int) := by omega
    have e2 : (u : Int) % 10 = ((u % 10 : Nat) : Int) := by omega
    have HE2 : Hid (bs (45 :: Lib.decDigits u) = bs (45 :: Lib.decDigits (u / 10)) ++ bs (Lib.decDigits (u % 10))) := by unfold Hid; rw [HE.out, bs_append]; rfl
    have E1 := Lib.hid e1
    have E2 := Lib.hid e2
    clear ih l1 l2 e1 e2
    go_enter Tryz.func44, Tryz.ntmps44
    go_wp2_with fail
    rw [E1.out]
    refine hx.mono ?_
    clear hx
    rintro e w1 ⟨rfl, hb1⟩
    go_wp2_with fail
    rw [E2.out]
    refine (HY.out w1).mono ?_
    rintro e w2 ⟨rfl, hb2⟩
    generalize hA : bs (45 :: Lib.decDigits (u / 10)) = A at *
    generalize hB : bs (Lib.decDigits (u % 10)) = B at *
    have hsum : ¬ 9223372036854775807 < A.size + B.size := by omega
    clear hA hB
    go_wp2_with fail
    go_ret
    exact ⟨by rw [HE2.out]; rfl, hb1.trans (hb2.mono hb1.size)⟩
theorem dig_any (n : Int) (h : -1000000 ≤ n ∧ n ≤ 1000000) (w : World) : Calls Tryz.prog 44 #[.int .i64 n] w fun e w' => e = .returned (.string (bs (Lib.itoa n))) ∧ Below w.heap.size w w' := by
  rcases itoa_cases n with ⟨u, rfl, e⟩ | ⟨u, hu, rfl, e⟩
  · rw [e]; exact dig_pos u (by omega) w
  · rw [e]; exact dig_neg u (by omega) (by omega) w
open Go Go.RowKit Go.Sort
section
variable {P : Program} {ops : Array Oper} {md : Region.Mode} {C : World → Prop}

def wpAnyLQ (P : Program) (md : Region.Mode) (ops : Array Oper) (C : World → Prop) (n : Nat) (L : Array Bool → Act → Prop) : Nat → Array Bool → Act → Prop
  | 0, listed, a => L listed a
  | f + 1, listed, a =>
    Region.ready md ops listed ≠ [] ∧ ∀ i ∈ Region.ready md ops listed, i < n ∧ qOp P ops C i (wpAnyLQ P md ops C n L f (listed.setIfInBounds i true)) a

theorem wpAny_of_headQ {n g : Nat} {L : Array Bool → Act → Prop} {Q' : Exit → Act → World → Prop} (hL : ∀ listed a w, C w → L listed a → wpAny P md ops Q' g listed a w) :
    ∀ (f : Nat) (listed : Array Bool) (a : Act) (w : World), C w → wpAnyLQ P md ops C n L f listed a → wpAny P md ops Q' (f + g) listed a w
  | 0, listed, a, w, hw, h => by rw [Nat.zero_add]; exact hL _ _ _ hw h
  | f + 1, listed, a, w, hw, h => by
    rw [show f + 1 + g = (f + g) + 1 by omega]
    exact ⟨fun h0 => absurd h0 h.1, fun i hi => wpOp_of_qOp hw (fun a' w' hw' h' => wpAny_of_headQ hL f _ a' w' hw' h') (h.2 i hi).2⟩

theorem wpAnyLQ_first {n i : Nat} {oi : Oper} {v : Value} {L : Array Bool → Act → Prop} (hi : ops[i]? = some oi) (hsel : ∀ (j : Nat) (o : Oper) cs b, ops[j]? = some o → o.op ≠ .select cs b)
    (hs : Region.sinkB md ops n = true) (hc : Region.chainB md ops n = true) (hn : n < ops.size) (hin : i < n)
    (hdone : ∀ listed a, L listed a → ∀ j ∈ Region.ready md ops listed, n ≤ j) :
    ∀ (f : Nat) (listed : Array Bool) (a : Act), HeadInv md ops n listed →
      (∀ j oj, ops[j]? = some oj → j ≠ i → listed.getD j true = false → (∀ e ∈ oj.after, Region.binds md e = true → e.on ≠ i) → oi.apart ops oj = true) →
      i ∈ Region.ready md ops listed → YieldsIn P ops C oi v a →
      wpAnyLQ P md ops C n L f (listed.setIfInBounds i true) (a.put oi.dst v) → wpAnyLQ P md ops C n L (f + 1) listed a := by
  intro f
  induction f with
  | zero =>
    intro listed a inv _ hr hy H
    have hun := (mem_ready.1 hr).1
    refine ⟨fun h => (by rw [h] at hr; cases hr), fun j hj => ?_⟩
    have hjn : j < n := by
      rcases Nat.lt_or_ge j n with h | h
      · exact h
      · exact absurd hj (tail_waits hs hc hn inv _ i rfl hin hun j h)
    refine ⟨hjn, ?_⟩
    by_cases hji : j = i
    · subst hji; exact hy.qOp hi H
    · have := hdone _ _ H j (ready_mono hj hji)
      omega
  | succ f ih =>
    intro listed a inv hfree hr hy H
    have hun := (mem_ready.1 hr).1
    refine ⟨fun h => (by rw [h] at hr; cases hr), fun j hj => ?_⟩
    have hjn : j < n := by
      rcases Nat.lt_or_ge j n with h | h
      · exact h
      · exact absurd hj (tail_waits hs hc hn inv _ i rfl hin hun j h)
    refine ⟨hjn, ?_⟩
    by_cases hji : j = i
    · subst hji; exact hy.qOp hi H
    · have h1 := (H.2 j (ready_mono hj hji)).2
      obtain ⟨hjun, oj, hoj, hall⟩ := mem_ready.1 hj
      have hnot : ∀ e ∈ oj.after, Region.binds md e = true → e.on ≠ i := fun e he hb heq => by
        have h1 := hall e he hb
        rw [heq, getD_both hun] at h1
        cases h1
      have h2 := qOp_put hoj (hfree j oj hoj hji hjun hnot) (fun cs b => hsel i oi cs b hi) (fun cs b => hsel j oj cs b hoj) hy h1
      have hfree' : ∀ k ok, ops[k]? = some ok → k ≠ i → (listed.setIfInBounds j true).getD k true = false →
          (∀ e ∈ ok.after, Region.binds md e = true → e.on ≠ i) → oi.apart ops ok = true := fun k ok hk hki hun hno => by
        refine hfree k ok hk hki ?_ hno
        by_cases hjk : j = k
        · subst hjk; exact hjun
        · rw [getD_set_ne true hjk] at hun; exact hun
      refine qOp_mono (fun a' h3 => ih (listed.setIfInBounds j true) a' (inv.set hj hjn) hfree' (ready_mono hr (Ne.symm hji)) h3.1 ?_) h2
      rw [Array.setIfInBounds_comm _ _ hji]
      exact h3.2

theorem wpAnyLQ_lex {n g : Nat} {Lq : Act → Prop} (hsel : Region.noSelect ops = true) (hs : Region.sinkB md ops n = true) (hc : Region.chainB md ops n = true) (hn : n < ops.size) :
    ∀ (l : List Oper) (k : Nat) (listed : Array Bool) (a : Act), (∀ j, j < l.length → l[j]? = ops[k + j]?) → k + l.length = n → HeadInv md ops n listed →
    Region.lexHead md ops g l.length k listed = true → wpQuiet P ops C Lq l a →
    wpAnyLQ P md ops C n (fun listed' a' => Region.seqB md ops g n listed' = true ∧ Lq a') l.length listed a
  | [], k, listed, a, _, hk, _, hB, h => by
    have : k = n := by simpa using hk
    subst this
    exact ⟨by simpa [Region.lexHead] using hB, h⟩
  | o :: l, k, listed, a, hl, hk, inv, hB, h => by
    have h0 : ops[k]? = some o := by simpa using (hl 0 (by simp)).symm
    simp only [List.length_cons, Region.lexHead, Bool.and_eq_true] at hB
    obtain ⟨⟨hr, hf⟩, hB'⟩ := hB
    have hkn : k < n := by simp only [List.length_cons] at hk; omega
    have hr' : k ∈ Region.ready md ops listed := by simpa using hr
    have hst : qOp P ops C k (wpQuiet P ops C Lq l) a := by unfold qOp; simp only [h0]; exact h
    obtain ⟨v, hy, hK⟩ := yieldsIn_of_qOp h0 hst
    exact wpAnyLQ_first h0 (Region.noSelect_spec hsel) hs hc hn hkn (fun listed' a' hL => seqB_ready hL.1) l.length listed a inv (Region.free_spec h0 hf) hr' hy
      (wpAnyLQ_lex hsel hs hc hn l (k + 1) _ _ (fun j hj => by have := hl (j + 1) (by simp; omega); simpa [Nat.add_assoc, Nat.add_comm 1 j] using this) (by simp only [List.length_cons] at hk; omega) (inv.set hr' hkn) hB' hK)

theorem wp_region_quiet_tail {id : Nat} {Q : Exit → Act → World → Prop} {a : Act} {w : World} {l : List Oper} (n : Nat) (hm : P.follows .mixedOrders = true) (hB : Region.lexTailB .any l.toArray n = true)
    (hC : C { w with drawn := w.drawn + 1 })
    (h : wpQuiet P l.toArray C (fun a' => ∀ w', C w' → wpList P l.toArray Q (l.drop n) a' w') (l.take n) a) : (Code.region id l.toArray true).wp P Q a w := by
  simp only [Region.lexTailB, Bool.and_eq_true, decide_eq_true_eq] at hB
  obtain ⟨⟨⟨⟨hsel, hn⟩, hs⟩, hc⟩, hlex⟩ := hB
  have hn' : n < l.length := by simpa using hn
  have htl : (l.take n).length = n := by simp; omega
  have hdl : (l.drop n).length = l.toArray.size - n := by simp
  have inv0 : HeadInv .any l.toArray n (Array.replicate l.toArray.size false) :=
    ⟨by simp, fun j oj _ hl => (by rw [getD_replicate_false] at hl; cases hl), fun t _ ht => getD_in (by simpa using ht) (getD_replicate_false _ _)⟩
  have H := wpAnyLQ_lex (C := C) (md := .any) (g := l.toArray.size - n) hsel hs hc hn (l.take n) 0 _ a (fun j hj => by
    have hj' : j < n := by rw [htl] at hj; exact hj
    simp [hj']) (by simpa using htl) inv0 (by rw [htl]; exact hlex) h
  refine wp_region_any hm ?_
  have := wpAny_of_headQ (C := C) (Q' := Q) (g := l.toArray.size - n) (fun listed a' w' hw' hL => by
    have := wpAny_of_seq (md := .any) (Q' := Q) (l.drop n) n listed a' w' (fun j => by simp [List.getElem?_drop]) (by rw [hdl]; exact hL.1) (hL.2 w' hw')
    rwa [hdl] at this) _ _ _ _ hC H
  rw [htl, show n + (l.toArray.size - n) = l.toArray.size by omega] at this
  exact this

/-- At the class 'w after some draws'. -/
theorem wp_quiet_tail {id : Nat} {Q : Exit → Act → World → Prop} {a : Act} {w : World} {l : List Oper} (n : Nat) (hm : P.follows .mixedOrders = true) (hB : Region.lexTailB .any l.toArray n = true)
    (h : wpQuiet P l.toArray (fun w' => ∃ n, w' = w.drewN n) (fun a' => ∀ w', (∃ n, w' = w.drewN n) → wpList P l.toArray Q (l.drop n) a' w') (l.take n) a) : (Code.region id l.toArray true).wp P Q a w :=
  wp_region_quiet_tail (C := fun w' => ∃ n, w' = w.drewN n) n hm hB ⟨1, rfl⟩ h
end
end Go.Proofs.YtflidfmpmakggaaGreatDoor
