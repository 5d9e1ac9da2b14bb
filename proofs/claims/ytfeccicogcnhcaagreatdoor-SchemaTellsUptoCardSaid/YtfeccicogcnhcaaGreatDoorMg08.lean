/- Parts: VtH, RgP, SgP, Stir, TxL. -/
import Derived.Test.YtfeccicogcnhcaaGreatDoorMg05
import Derived.Test.YtfeccicogcnhcaaGreatDoorMg07
import Derived.Test.YtfeccicogcnhcaaGreatDoorMg01
import Derived.RangeFuncNested
import Derived.Shelf.Strings.OnBuilder
import Derived.Shelf.Strings.BuilderF
import Derived.Shelf.Strings.BuilderK
import Derived.Shelf.Strings.MapGrows
import Derived.Shelf.Strings.Replace
import Derived.Lib.SmallJoins
import Derived.Shelf.Strings.Prefix
import Derived.Shelf.Strconv.Itoa3
import Derived.Lib.AppendIntMem
import Derived.Shelf.Strconv.ErrVarAll
/- Plain: a text as a schema. No condition. -/
namespace Go.Proofs.YtfeccicogcnhcaaGreatDoor
open Go

/-- A text that is a word: it is not empty, and has neither , nor : in it. -/
def wordB (l : List UInt8) : Bool := !l.isEmpty && !l.any fun c => c == 44 || c == 58
theorem word_iff {l : List UInt8} : wordB l = true ↔ l ≠ [] ∧ noB 44 l ∧ noB 58 l := by
  unfold wordB
  rw [Bool.and_eq_true, Bool.not_eq_true', Bool.not_eq_true']
  constructor
  · rintro ⟨h1, h2⟩
    refine ⟨fun e => by rw [e] at h1; exact absurd h1 (by decide), fun x hx e => ?_, fun x hx e => ?_⟩
    · have : l.any (fun c => c == 44 || c == 58) = true := List.any_eq_true.2 ⟨x, hx, by subst e; decide⟩
      rw [h2] at this; cases this
    · have : l.any (fun c => c == 44 || c == 58) = true := List.any_eq_true.2 ⟨x, hx, by subst e; decide⟩
      rw [h2] at this; cases this
  · rintro ⟨h1, h2, h3⟩
    refine ⟨List.isEmpty_eq_false_iff.2 h1, ?_⟩
    cases hq : l.any (fun c => c == 44 || c == 58) with
    | false => rfl
    | true =>
      obtain ⟨x, hx, hc⟩ := List.any_eq_true.1 hq
      rw [Bool.or_eq_true, beq_iff_eq, beq_iff_eq] at hc
      rcases hc with e | e
      · exact absurd e (h2 x hx)
      · exact absurd e (h3 x hx)
def kindW : List UInt8 := [107, 105, 110, 100]
def bondW : List UInt8 := [98, 111, 110, 100]
def ofW : List UInt8 := [111, 102]
def anyW : List UInt8 := [97, 110, 121]
/-- The number of a type's word. -/
def typN (l : List UInt8) : Int := if l = [] then 0 else if l = [105, 110, 116] then 1 else if l = [98, 111, 111, 108] then 2 else if l = [116, 101, 120, 116] then 3 else -1
theorem typ_of {l : List UInt8} (h : 0 < typN l) : typL (typN l) = l := by
  unfold typN at h ⊢
  split at h
  · omega
  · rename_i h0
    rw [if_neg h0]
    split at h
    · rename_i h1; rw [if_pos h1, h1]; rfl
    · rename_i h1
      rw [if_neg h1]
      split at h
      · rename_i h2; rw [if_pos h2, h2]; rfl
      · rename_i h2
        rw [if_neg h2]
        split at h
        · rename_i h3; rw [if_pos h3, h3]; rfl
        · omega
/-- What stands behind a type's word: must it be, is it a key. -/
def signB (r : List UInt8) : Bool × Bool × List UInt8 := if Lib.hasSuffix r [33] = true then (true, false, Lib.trimSuffix r [33]) else if Lib.hasSuffix r [42] = true then (true, true, Lib.trimSuffix r [42]) else (false, false, r)
theorem suffix_one (a : List UInt8) (c : UInt8) : Lib.hasSuffix (a ++ [c]) [c] = true ∧ Lib.trimSuffix (a ++ [c]) [c] = a := by
  have h : Lib.hasSuffix (a ++ [c]) [c] = true := by
    unfold Lib.hasSuffix
    rw [List.isSuffixOf_iff_suffix]
    exact ⟨a, rfl⟩
  refine ⟨h, ?_⟩
  unfold Lib.trimSuffix
  rw [h, if_pos rfl]
  simp
theorem suffix_one_cases (x : List UInt8) (c : UInt8) : Lib.hasSuffix x [c] = false ∨ ∃ a, x = a ++ [c] := by
  cases h : Lib.hasSuffix x [c] with
  | false => exact .inl rfl
  | true =>
    unfold Lib.hasSuffix at h
    rw [List.isSuffixOf_iff_suffix] at h
    obtain ⟨a, e⟩ := h
    exact .inr ⟨a, e.symm⟩
theorem suffix_other (a : List UInt8) {c d : UInt8} (h : d ≠ c) : Lib.hasSuffix (a ++ [d]) [c] = false := by
  rcases suffix_one_cases (a ++ [d]) c with h1 | ⟨b, e⟩
  · exact h1
  · have := congrArg List.getLast? e
    simp at this
    exact absurd this h
def readFldL (x : List UInt8) : Option Fld := if (Lib.cut x [58]).2.2 = true ∧ wordB (Lib.cut x [58]).1 = true ∧ 0 < typN (signB (Lib.cut x [58]).2.1).2.2 then
  some ⟨bs (Lib.cut x [58]).1, typN (signB (Lib.cut x [58]).2.1).2.2, (signB (Lib.cut x [58]).2.1).1, (signB (Lib.cut x [58]).2.1).2.1⟩ else none
def fldsP : List (List UInt8) → Option (List Fld)
  | [] => some []
  | x :: xs => match readFldL x with
    | none => none
    | some f => match fldsP xs with
      | none => none
      | some r => some (f :: r)
theorem fldsP_cons (x : List UInt8) (xs : List (List UInt8)) : fldsP (x :: xs) = match readFldL x with | none => none | some f => match fldsP xs with | none => none | some r => some (f :: r) := rfl
theorem fldsP_append : ∀ (a b : List (List UInt8)), fldsP (a ++ b) = match fldsP a with | none => none | some u => match fldsP b with | none => none | some v => some (u ++ v)
  | [], b => by
    show fldsP b = match fldsP b with | none => none | some v => some ([] ++ v)
    cases fldsP b <;> rfl
  | x :: a, b => by
    show fldsP (x :: (a ++ b)) = _
    rw [fldsP_cons, fldsP_cons, fldsP_append a b]
    cases readFldL x with
    | none => rfl
    | some p =>
      cases fldsP a with
      | none => rfl
      | some u =>
        cases fldsP b with
        | none => rfl
        | some v => rfl
theorem fldsP_take {xs : List (List UInt8)} {k : Nat} {x : List UInt8} {u : List Fld} (h : fldsP (xs.take k) = some u) (hx : xs[k]? = some x) : (readFldL x = none → fldsP xs = none) ∧ ∀ p, readFldL x = some p → fldsP (xs.take (k + 1)) = some (u ++ [p]) := by
  have e : xs.take (k + 1) = xs.take k ++ [x] := by rw [List.take_add_one, hx]; rfl
  constructor
  · intro hp
    have e2 : xs = xs.take (k + 1) ++ xs.drop (k + 1) := (List.take_append_drop _ _).symm
    rw [e2, fldsP_append, e, fldsP_append, h]
    simp only [fldsP_cons, hp]
  · intro p hp
    rw [e, fldsP_append, h]
    simp only [fldsP_cons, hp]
    rfl
/-- The words of a kind, behind its name: whom it comes of; the words of its fields. -/
def ofsP (ws : List (List UInt8)) : Option (List ByteArray × List (List UInt8)) := match ws with
  | o :: x :: rest => if o = ofW then (if (Lib.split x [44]).all wordB = true then some ((Lib.split x [44]).map bs, rest) else none) else some ([], ws)
  | _ => some ([], ws)
def readKndL (w : List (List UInt8)) : Option Knd := match w with
  | _ :: a :: ws => if wordB a = true then (match ofsP ws with
    | none => none
    | some u => match fldsP u.2 with
      | none => none
      | some fs => some ⟨bs a, u.1, fs⟩) else none
  | _ => none
def readBndL (w : List (List UInt8)) : Option Bnd := match w with
  | [_, a, b, c, d, e] => if wordB a = true ∧ wordB b = true ∧ wordB c = true then (match numL d 2 with
    | none => none
    | some mn => if e = anyW then some ⟨bs a, bs b, bs c, mn, -1⟩ else match numL e 2 with
      | none => none
      | some mx => some ⟨bs a, bs b, bs c, mn, mx⟩) else none
  | _ => none
/-- A line more. -/
def lineS (s : Scm) (x : List UInt8) : Option Scm :=
  if Lib.hasSuffix x [10] = true then
    (if (Lib.split (Lib.trimSuffix x [10]) [32]).head? = some kindW ∧ s.bonds.length = 0 then (readKndL (Lib.split (Lib.trimSuffix x [10]) [32])).map fun k => ⟨s.kinds ++ [k], s.bonds⟩
     else if (Lib.split (Lib.trimSuffix x [10]) [32]).head? = some bondW then (readBndL (Lib.split (Lib.trimSuffix x [10]) [32])).map fun b => ⟨s.kinds, s.bonds ++ [b]⟩
     else none)
  else none
def runS (s : Scm) (n : Nat) : List (List UInt8) → Except Nat Scm
  | [] => .ok s
  | x :: xs => match lineS s x with
    | none => .error n
    | some s' => runS s' (n + 1) xs
def readSE (l : List UInt8) : Int := match runS ⟨[], []⟩ 0 (linesL l) with | .error _ => 2 | .ok s => (scmE s).2
def readSN (l : List UInt8) : Nat := match runS ⟨[], []⟩ 0 (linesL l) with | .error n => n | .ok _ => 0
def readSV (l : List UInt8) : Scm := match runS ⟨[], []⟩ 0 (linesL l) with | .error _ => ⟨[], []⟩ | .ok s => if (scmE s).2 = 0 then s else ⟨[], []⟩
theorem typ_no {c : UInt8} (hc : c.toNat < 97 ∨ 122 < c.toNat) (ty : Int) : noB c (typL ty) := by
  have hl : ∀ l : List UInt8, l.all (fun x => decide (97 ≤ x.toNat ∧ x.toNat ≤ 122)) = true → noB c l := fun l hl x hx e => by
    have := of_decide_eq_true (List.all_eq_true.1 hl x hx)
    subst e; omega
  unfold typL
  split
  · exact hl _ (by decide)
  · split
    · exact hl _ (by decide)
    · split
      · exact hl _ (by decide)
      · exact .nil
theorem ofsP_of (x : List UInt8) (rest : List (List UInt8)) : ofsP (ofW :: x :: rest) = if (Lib.split x [44]).all wordB = true then some ((Lib.split x [44]).map bs, rest) else none := by
  show (if ofW = ofW then (if (Lib.split x [44]).all wordB = true then some ((Lib.split x [44]).map bs, rest) else none) else some ([], ofW :: x :: rest)) = _
  rw [if_pos rfl]

theorem suffix_noB {x : List UInt8} (h : noB 10 x) : Lib.hasSuffix x [10] = false := by
  rcases suffix_cases x with h1 | ⟨a, rfl⟩
  · exact h1
  · exact absurd rfl (h 10 (by simp))

/-- The reference's lines, one by one: the last one must be empty. -/
def srun (g : Scm) (n : Nat) : List (List UInt8) → Except Nat Scm
  | [] => .ok g
  | [x] => if x = [] then .ok g else .error n
  | x :: y :: r => match lineS g (x ++ [10]) with
    | none => .error n
    | some g' => srun g' (n + 1) (y :: r)
theorem srun_eq : ∀ (m : Nat) (l : List UInt8) (g : Scm) (n : Nat), l.length ≤ m → srun g n (Lib.split l [10]) = runS g n (linesL l)
  | m, l, g, n, hm => by
    rcases first_sign 10 l with h | ⟨a, r, rfl, h⟩
    · rw [split_no h]
      by_cases h0 : l = []
      · subst h0; rw [lines_nil]; rfl
      · rw [lines_no h h0]
        show (if l = [] then _ else _) = (match lineS g l with | none => _ | some g' => _)
        rw [if_neg h0]
        have : lineS g l = none := by unfold lineS; rw [suffix_noB h]; rfl
        rw [this]
    · cases m with
      | zero => simp at hm
      | succ m =>
        rw [split_sign h, lines_sign h]
        have ih := fun g' => srun_eq m r g' (n + 1) (by simp at hm; omega)
        cases hs : Lib.split r [10] with
        | nil => exact absurd hs (split_ne 10 r)
        | cons y t =>
          rw [hs] at ih
          show (match lineS g (a ++ [10]) with | none => Except.error n | some g' => srun g' (n + 1) (y :: t)) = (match lineS g (a ++ [10]) with | none => Except.error n | some g' => runS g' (n + 1) (linesL r))
          cases lineS g (a ++ [10]) with
          | none => rfl
          | some g' => exact ih g'
theorem srun_more {g : Scm} {P : List (List UInt8)} {k : Nat} {x : List UInt8} {n : Nat} (hx : P[k]? = some x) (hk : k + 1 < P.length) :
    (lineS g (x ++ [10]) = none → srun g n (P.drop k) = .error n) ∧ ∀ g', lineS g (x ++ [10]) = some g' → srun g n (P.drop k) = srun g' (n + 1) (P.drop (k + 1)) := by
  obtain ⟨y, hy⟩ : ∃ y, P[k + 1]? = some y := ⟨_, List.getElem?_eq_getElem hk⟩
  have e1 : P.drop k = x :: P.drop (k + 1) := by
    obtain ⟨h1, e⟩ := List.getElem?_eq_some_iff.1 hx
    rw [List.drop_eq_getElem_cons h1, e]
  have e2 : P.drop (k + 1) = y :: P.drop (k + 1 + 1) := by
    obtain ⟨h1, e⟩ := List.getElem?_eq_some_iff.1 hy
    rw [List.drop_eq_getElem_cons h1, e]
  rw [e1, e2]
  constructor
  · intro h
    show (match lineS g (x ++ [10]) with | none => _ | some g' => _) = _
    rw [h]
  · intro g' h
    show (match lineS g (x ++ [10]) with | none => _ | some g' => _) = _
    rw [h]
theorem srun_last {g : Scm} {P : List (List UInt8)} {k : Nat} {x : List UInt8} {n : Nat} (hx : P[k]? = some x) (hk : k + 1 = P.length) : srun g n (P.drop k) = if x = [] then .ok g else .error n := by
  have e1 : P.drop k = [x] := by
    obtain ⟨h1, e⟩ := List.getElem?_eq_some_iff.1 hx
    rw [List.drop_eq_getElem_cons h1, e, hk, List.drop_length]
  rw [e1]; rfl
theorem read_srun (l : List UInt8) : (∀ n, srun ⟨[], []⟩ 0 (Lib.split l [10]) = .error n → readSE l = 2 ∧ readSN l = n ∧ readSV l = ⟨[], []⟩) ∧ ∀ g, srun ⟨[], []⟩ 0 (Lib.split l [10]) = .ok g → readSE l = (scmE g).2 ∧ readSN l = 0 ∧ readSV l = if (scmE g).2 = 0 then g else ⟨[], []⟩ := by
  rw [srun_eq l.length l _ _ (Nat.le_refl _)]
  unfold readSE readSN readSV
  constructor
  · intro n h; rw [h]; exact ⟨rfl, rfl, rfl⟩
  · intro g h; rw [h]; exact ⟨rfl, rfl, rfl⟩
theorem signB_snoc (a : List UInt8) (c : UInt8) : signB (a ++ [c]) = if c = 33 then (true, false, a) else if c = 42 then (true, true, a) else (false, false, a ++ [c]) := by
  unfold signB
  by_cases h1 : c = 33
  · subst h1
    obtain ⟨e1, e2⟩ := suffix_one a 33
    rw [if_pos e1, e2, if_pos rfl]
  · rw [if_neg h1, if_neg (by rw [suffix_other a h1]; decide)]
    by_cases h2 : c = 42
    · subst h2
      obtain ⟨e1, e2⟩ := suffix_one a 42
      rw [if_pos e1, e2, if_pos rfl]
    · rw [if_neg h2, if_neg (by rw [suffix_other a h2]; decide)]
theorem signB_nil : signB [] = (false, false, []) := by decide +kernel
theorem signB_has {b : List UInt8} (h : noB 58 (signB b).2.2) : noB 58 b := by
  rcases List.eq_nil_or_concat b with rfl | ⟨a, c, rfl⟩
  · exact .nil
  · rw [List.concat_eq_append] at h ⊢
    rw [signB_snoc] at h
    intro x hx e
    subst e
    by_cases h1 : c = 33
    · rw [if_pos h1] at h
      rcases List.mem_append.1 hx with h2 | h2
      · exact h _ h2 rfl
      · rw [← List.mem_singleton.1 h2] at h1; exact absurd h1 (by decide)
    · rw [if_neg h1] at h
      by_cases h3 : c = 42
      · rw [if_pos h3] at h
        rcases List.mem_append.1 hx with h2 | h2
        · exact h _ h2 rfl
        · rw [← List.mem_singleton.1 h2] at h3; exact absurd h3 (by decide)
      · rw [if_neg h3] at h
        exact h _ hx rfl
theorem typN_noB {l : List UInt8} (h : 0 < typN l) : noB 58 l := by rw [← typ_of h]; exact typ_no (by decide) _
/-- A field's word, cut at its colons. -/
theorem fld_split (x : List UInt8) : (∀ a b, Lib.split x [58] = [a, b] → readFldL x = if wordB a = true ∧ 0 < typN (signB b).2.2 then some ⟨bs a, typN (signB b).2.2, (signB b).1, (signB b).2.1⟩ else none) ∧ ((Lib.split x [58]).length ≠ 2 → readFldL x = none) := by
  rcases cut_cases 58 x with ⟨hc, hn⟩ | ⟨a, r, rfl, hn, hc⟩
  · rw [split_no hn]
    refine ⟨fun a b h => by simp at h, fun _ => ?_⟩
    unfold readFldL
    rw [hc, if_neg (fun h => by cases h.1)]
  · rw [split_sign hn]
    have e : readFldL (a ++ 58 :: r) = if wordB a = true ∧ 0 < typN (signB r).2.2 then some ⟨bs a, typN (signB r).2.2, (signB r).1, (signB r).2.1⟩ else none := by
      unfold readFldL
      rw [hc]
      by_cases h : wordB a = true ∧ 0 < typN (signB r).2.2
      · rw [if_pos h, if_pos ⟨rfl, h⟩]
      · rw [if_neg h, if_neg (fun h2 => h h2.2)]
    rw [e]
    rcases first_sign 58 r with h | ⟨a2, r2, rfl, h⟩
    · rw [split_no h]
      refine ⟨fun a' b' he => ?_, fun hl => absurd rfl hl⟩
      injection he with e1 he
      injection he with e2 _
      rw [e1, e2]
    · rw [split_sign h]
      have hno : ¬ 0 < typN (signB (a2 ++ 58 :: r2)).2.2 := fun h0 => signB_has (typN_noB h0) 58 (by simp) rfl
      refine ⟨fun a' b' he => ?_, fun _ => if_neg (fun h2 => hno h2.2)⟩
      injection he with e1 he
      injection he with e2 he
      exact absurd he (split_ne 58 r2)
/-- The number of a type's word, as the reference counts it. -/
def typM (l : List UInt8) : Int := if 0 < typN l then typN l else 0
theorem typM_pos {l : List UInt8} : (0 < typM l) = (0 < typN l) := by
  unfold typM
  by_cases h : 0 < typN l
  · rw [if_pos h]
  · rw [if_neg h]; simp [h]
open Go Go.RowKit

section
variable {F : Fence} {n : Nat} {P : Program} {α : Type}

/-- What the steps of R leave true. -/
def Stands {β : Type} (R : World → World → Prop) (J : β → World → Prop) : Prop := ∀ s X Y, J s X → R X Y → J s Y
/-- The iterator hands its elements over one by one; between the rounds it takes steps of R; a round must keep Kp; S tells what it has handed over at its end, Sp where it was stopped. -/
def Stirs (F : Fence) (n : Nat) (P : Program) (g : Nat) (lb : Array Value) (encs : α → Array Value) (Kp R : World → World → Prop) (S Sp : List α → Prop) (w : World) : Prop :=
  ∀ (l : Nat) (J Jx : List α → World → Prop) (W : World), Below w.heap.size w W → Stands R J → Stands R Jx →
    (∀ pre x W1, Sp (pre ++ [x]) → J pre W1 → YieldAt F (n - 1) P l (encs x) W1 fun e W' => (e = .returned (.bool true) ∧ J (pre ++ [x]) W' ∧ Kp W1 W') ∨ (e = .returned (.bool false) ∧ Jx (pre ++ [x]) W')) →
    J [] W → CallsIn F n P g (#[.func (.yield l) #[] #[]] ++ lb) W fun e W' => (∃ v, e = .returned v) ∧ ((∃ xs, S xs ∧ J xs W') ∨ (∃ pre, Sp pre ∧ Jx pre W'))

/-- The record of the loop, and the block of its deferred calls, as they lie at b + 1 and b. -/
def Recd (b : Nat) (r : Loop) (W : World) : Prop := W.heap[b + 1]? = some (.loop r) ∧ W.heap[b]? = some (.deferred (some []))
theorem Recd.put {b : Nat} {r r' : Loop} {W : World} (h : Recd b r W) : Recd b r' (W.putObj (b + 1) (.loop r')) :=
  ⟨World.putObj_heap_same (Array.getElem?_eq_some_iff.1 h.1).1, (World.putObj_heap_other (by omega)).trans h.2⟩
theorem Recd.keeps {b : Nat} {r : Loop} {W W' : World} (h : Recd b r W) (hk : KeepsFrom b W W') : Recd b r W' := ⟨hk.same _ _ (by omega) h.1 rfl, hk.same _ _ (Nat.le_refl _) h.2 rfl⟩
theorem Recd.step {b : Nat} {r : Loop} {W W' : World} (h : Recd b r W) (hk : ∀ (k : Nat) (o : Obj), b ≤ k → W.heap[k]? = some o → o.isCells = false → W'.heap[k]? = some o) : Recd b r W' := ⟨hk _ _ (by omega) h.1 rfl, hk _ _ (Nat.le_refl _) h.2 rfl⟩

set_option maxHeartbeats 400000 in
theorem wpIn_rangeFunc_stirs {g : Operand} {ps : Array Tmp} {assign body : Code} {Q : Exit → Act → World → Prop} {a : Act} {w : World}
    (hro : F.round = none) (h1 : 1 ≤ n) {gf : Nat} {lb : Array Value} (hg : a.eval g = .func (.func gf) #[] lb) (hFg : F.fn gf) (eg : ∀ args w, (callFunc gf args).run P w = .ok (.enter gf args) w)
    {encs : α → Array Value} {Kp R : World → World → Prop} {S Sp : List α → Prop} {w0 : World} (hseq : Stirs F (n - 1) P gf lb encs Kp R S Sp w0) (hb0 : Below w0.heap.size w0 w)
    (hKt : ∀ {A B C : World}, Kp A B → Kp B C → Kp A C) (hKb : ∀ (W : World) (l : Nat) (o o' : Obj), w.heap.size ≤ l → W.heap[l]? = some o → o.isCells = false → o.isWalk = false → Kp W (W.putObj l o'))
    (hRk : ∀ X Y, R X Y → ∀ (k : Nat) (o : Obj), w.heap.size ≤ k → X.heap[k]? = some o → o.isCells = false → Y.heap[k]? = some o) (hps : ∀ x, (encs x).size = ps.size)
    (I : List α → World → Prop) (Ix : Code → List α → World → Prop) (hI : OwnFrom w.heap.size I) (hIR : Stands R I) (hIx : ∀ c, OwnFrom w.heap.size (Ix c)) (hIxR : ∀ c, Stands R (Ix c)) (h0 : I [] w) (a₁ : α → Act)
    (hassign : ∀ (l : Nat) (x : α) (W : World) (K : Act → World → Prop), K (a₁ x) W →
      assign.wpIn (F.inRound l) (n - 1 - 1) P (Exit.then K (fun _ _ _ => False)) { tmps := (ps.zip (encs x)).foldl (fun t (p, v) => t.setIfInBounds p v) a.tmps, defers := [] } W)
    (hbody : ∀ (l : Nat) (pre : List α) (x : α) (W : World), Sp (pre ++ [x]) → I pre W → body.wpIn (F.inRound l) (n - 1 - 1) P (ownPostG w.heap.size Kp I Ix (pre ++ [x]) W) (a₁ x) W)
    (hdone : ∀ (D : Nat) (xs : List α) (W : World), w.heap.size ≤ D → S xs → I xs W → W.heap[D]? = some (.deferred (some [])) → Q .normal { a with defers := { target := .collected D, args := #[] } :: a.defers } W)
    (hstop : ∀ (D : Nat) (c : Code) (pre : List α) (W : World), w.heap.size ≤ D → Sp pre → Ix c pre W → W.heap[D]? = some (.deferred (some [])) → c.wpIn F n P Q { a with defers := { target := .collected D, args := #[] } :: a.defers } W) :
    (Code.rangeFunc g ps assign body).wpIn F n P Q a w := by
  refine wpIn_rangeFunc fun fn hfn => ?_
  rw [hro]
  obtain ⟨mk, hmk⟩ : ∃ mk : LoopState → Option Code → Loop, mk = fun st pe => { state := st, pending := pe, fn, tmps := a.tmps, params := ps, assign, body, defers := w.heap.size } := ⟨_, rfl⟩
  obtain ⟨V, hV⟩ : ∃ V, V = (w.alloc (.deferred (some []))).alloc (.loop (mk .ready none)) := ⟨_, rfl⟩
  have hIV : I [] V := by rw [hV]; exact hI.alloc _ (hI.alloc _ h0)
  have hwV : Below w.heap.size w V := by rw [hV]; exact ((Below.refl _ w).alloc (Nat.le_refl _) _).alloc (by simp) _
  have hrV : Recd w.heap.size (mk .ready none) V := by
    rw [hV]
    refine ⟨?_, (Below.heap_alloc _ _ _ (by simp)).trans (World.alloc_heap_new w _)⟩
    have := World.alloc_heap_new (w.alloc (.deferred (some []))) (.loop (mk .ready none))
    rwa [World.size_alloc] at this
  -- one round
  have round : ∀ (pre : List α) (x : α) (W : World), Sp (pre ++ [x]) → I pre W → Recd w.heap.size (mk .ready none) W →
      YieldAt F (n - 1 - 1) P (w.heap.size + 1) (encs x) W fun e W' => (e = .returned (.bool true) ∧ (I (pre ++ [x]) W' ∧ Recd w.heap.size (mk .ready none) W') ∧ Kp W W') ∨ (e = .returned (.bool false) ∧ ∃ c, Ix c (pre ++ [x]) W' ∧ Recd w.heap.size (mk .done (some c)) W') := by
    intro pre x W hsp hi hr
    have hy := run_yield (P := P) (args := encs x) hr.1 (by rw [hmk]; exact hps x)
    rw [hmk] at hy
    have hbeg := run_beginRound (P := P) hr.1 (by rw [hmk])
    have hbusy : Recd w.heap.size (mk .busy none) (W.putObj (w.heap.size + 1) (.loop (mk .busy none))) := hr.put
    have hbe : ({ mk .ready none with state := .busy } : Loop) = mk .busy none := by rw [hmk]
    rw [hbe] at hbeg
    have hkp := hKb W (w.heap.size + 1) _ (.loop (mk .busy none)) (by omega) hr.1 rfl rfl
    -- a round's end, by a jump or none
    have close : ∀ (jump : Option Code) (st : LoopState), (if jump.isNone then LoopState.ready else .done) = st → ∀ Z, Recd w.heap.size (mk .busy none) Z → (Instr.endRound (w.heap.size + 1) jump).run P Z = .ok (.bool jump.isNone) (Z.putObj (w.heap.size + 1) (.loop (mk st jump))) ∧ Recd w.heap.size (mk st jump) (Z.putObj (w.heap.size + 1) (.loop (mk st jump))) := by
      intro jump st hst Z hz
      have he := run_endRound (P := P) jump hz.1
      have hee : ({ mk .busy none with state := if jump.isNone then .ready else .done, pending := jump } : Loop) = mk st jump := by rw [hmk, ← hst]
      rw [hee] at he
      exact ⟨he, hz.put⟩
    have leave : ∀ (c : Code) (Z : World), KeepsFrom w.heap.size (W.putObj (w.heap.size + 1) (.loop (mk .busy none))) Z → Ix c (pre ++ [x]) Z → ∃ v Z', (Instr.endRound (w.heap.size + 1) (some c)).run P Z = .ok v Z' ∧ v = .bool false ∧ ∃ c, Ix c (pre ++ [x]) Z' ∧ Recd w.heap.size (mk .done (some c)) Z' := by
      intro c Z hk hx
      have hz := hbusy.keeps hk
      obtain ⟨he, hz'⟩ := close (some c) .done rfl Z hz
      exact ⟨_, _, he, rfl, c, (hIx c).putObj _ hx (by omega) hz.1 rfl, hz'⟩
    refine ⟨fn, _, assign, body, hy, roundIn_of_wpIn hfn (hassign _ x W _ ⟨_, hbeg, wpIn_mono (hbody _ pre x _ hsp (hI.putObj _ hi (by omega) hr.1 rfl)) ?_⟩)⟩
    intro e a3 Z hp
    cases e with
    | normal =>
      obtain ⟨hk, hkz, hiz⟩ := hp
      have hz := hbusy.keeps hk
      obtain ⟨he, hz'⟩ := close none .ready rfl Z hz
      exact ⟨_, _, he, .inl ⟨rfl, ⟨hI.putObj _ hiz (by omega) hz.1 rfl, hz'⟩, hKt (hKt hkp hkz) (hKb Z (w.heap.size + 1) _ _ (by omega) hz.1 rfl rfl)⟩⟩
    | ret => obtain ⟨v, Z', he, rfl, hx⟩ := leave .ret Z hp.1 hp.2; exact ⟨_, _, he, .inr ⟨rfl, hx⟩⟩
    | exit id => obtain ⟨v, Z', he, rfl, hx⟩ := leave (.exit id) Z hp.1 hp.2; exact ⟨_, _, he, .inr ⟨rfl, hx⟩⟩
    | goto t => obtain ⟨v, Z', he, rfl, hx⟩ := leave (.goto t) Z hp.1 hp.2; exact ⟨_, _, he, .inr ⟨rfl, hx⟩⟩
    | panic ch => exact hp.elim
    | outgrown => exact hp.elim
  have hcall := hseq (w.heap.size + 1) (fun pre W => I pre W ∧ Recd w.heap.size (mk .ready none) W) (fun pre W => ∃ c, Ix c pre W ∧ Recd w.heap.size (mk .done (some c)) W) V
    (hb0.trans (hwV.mono hb0.size)) (fun s X Y hs hr => ⟨hIR s X Y hs.1 hr, hs.2.step (hRk X Y hr)⟩) (fun s X Y ⟨c, h1, h2⟩ hr => ⟨c, hIxR c s X Y h1 hr, h2.step (hRk X Y hr)⟩)
    (fun pre x W hsp hj => round pre x W hsp hj.1 hj.2) ⟨hIV, hrV⟩
  refine ⟨w.heap.size + 1, [{ target := .collected w.heap.size, args := #[] }], V, { target := .fn (.func gf) lb, args := #[.func (.yield (w.heap.size + 1)) #[] #[]] }, V, gf, #[.func (.yield (w.heap.size + 1)) #[] #[]] ++ lb, V, ?_, ?_, ?_, ?_, fun _ => h1, ?_⟩
  · rw [hV, hmk]; exact run_enterLoop_outer _ _ _ _ _
  · simp only [resolve, hg]; simp [go_sem]
  · intro f' hf'
    simp [Target.leads] at hf'
    subst hf'; exact hFg
  · simp [invoke, go_sem, eg]
  · -- behind the iterator
    refine hcall.mono ?_
    have shut : ∀ (r : Loop), r.state ≠ .busy → ∀ Z, Recd w.heap.size r Z → (Instr.endLoop (w.heap.size + 1)).run P Z = .ok r.pending (Z.putObj (w.heap.size + 1) (.loop { r with state := .exhausted })) := fun r hb Z hz => run_endLoop hz.1 hb
    rintro e Z ⟨⟨v, rfl⟩, ⟨xs, hS, hi, hz⟩ | ⟨pre, hSp, c, hx, hz⟩⟩
    · exact ⟨none, _, by have := shut _ (by rw [hmk]; simp) Z hz; rw [hmk] at this; exact this, hdone _ xs _ (Nat.le_refl _) hS (hI.putObj _ hi (by omega) hz.1 rfl) ((World.putObj_heap_other (by omega)).trans hz.2)⟩
    · exact ⟨some c, _, by have := shut _ (by rw [hmk]; simp) Z hz; rw [hmk] at this; exact this, hstop _ c pre _ (Nat.le_refl _) hSp ((hIx c).putObj _ hx (by omega) hz.1 rfl) ((World.putObj_heap_other (by omega)).trans hz.2)⟩
end
open Go Go.Shelf Go.RowKit

-- written by shelflay.py for the seat YtfeccicogcnhcaaGreatDoor
def joinLay_ren : Go.Shelf.Ren := ⟨fun | 156 => 25 | 165 => 49 | 166 => 26 | 169 => 28 | 240 => 50 | 241 => 77 | 276 => 78 | 277 => 100 | n => n, fun | 31 => 45 | 9 => 9 | 3 => 3 | 4 => 4 | 0 => 0 | 20 => 20 | 72 => 67 | 76 => 70 | 70 => 64 | 37 => 65 | 75 => 29 | 127 => 98 | 164 => 115 | 5 => 5 | 80 => 72 | n => n, fun | n => n⟩
theorem joinLay : Go.Proofs.Lays.n156 Tryz.prog joinLay_ren := {
  mixed := by kernel_rfl,
  f156 := Tryz.func25.trans (congrArg some (by kernel_rfl)),
  f165 := Tryz.func49.trans (congrArg some (by kernel_rfl)),
  f166 := Tryz.func26.trans (congrArg some (by kernel_rfl)),
  f169 := Tryz.func28.trans (congrArg some (by kernel_rfl)),
  f240 := Tryz.func50.trans (congrArg some (by kernel_rfl)),
  f241 := Tryz.func77.trans (congrArg some (by kernel_rfl)),
  f276 := Tryz.func78.trans (congrArg some (by kernel_rfl)),
  f277 := Tryz.func100.trans (congrArg some (by kernel_rfl)),
  t0 := Tryz.underlying0,
  a0 := Tryz.isAgg0,
  z0 := Tryz.sizeOf0,
  v0 := Tryz.zeroValue0,
  t3 := Tryz.underlying3,
  a3 := Tryz.isAgg3,
  z3 := Tryz.sizeOf3,
  v3 := Tryz.zeroValue3,
  t4 := Tryz.underlying4,
  a4 := Tryz.isAgg4,
  z4 := Tryz.sizeOf4,
  v4 := Tryz.zeroValue4,
  t9 := Tryz.underlying9,
  a9 := Tryz.isAgg9,
  z9 := Tryz.sizeOf9,
  v9 := Tryz.zeroValue9,
  t20 := Tryz.underlying20,
  a20 := Tryz.isAgg20,
  z20 := Tryz.sizeOf20,
  v20 := Tryz.zeroValue20,
  t31 := Tryz.underlying45,
  a31 := Tryz.isAgg45,
  z31 := Tryz.sizeOf45,
  v31 := Tryz.zeroValue45,
  t37 := Tryz.underlying65,
  a37 := Tryz.isAgg65,
  z37 := Tryz.sizeOf65,
  v37 := Tryz.zeroValue65,
  t70 := Tryz.underlying64,
  a70 := Tryz.isAgg64,
  z70 := Tryz.sizeOf64,
  v70 := Tryz.zeroValue64,
  t72 := Tryz.underlying67,
  a72 := Tryz.isAgg67,
  z72 := Tryz.sizeOf67,
  v72 := Tryz.zeroValue67,
  t75 := Tryz.underlying29,
  a75 := Tryz.isAgg29,
  z75 := Tryz.sizeOf29,
  v75 := Tryz.zeroValue29,
  t76 := Tryz.underlying70,
  a76 := Tryz.isAgg70,
  z76 := Tryz.sizeOf70,
  v76 := Tryz.zeroValue70,
  t127 := Tryz.underlying98,
  a127 := Tryz.isAgg98,
  z127 := Tryz.sizeOf98,
  v127 := Tryz.zeroValue98,
  t164 := Tryz.underlying115,
  a164 := Tryz.isAgg115,
  z164 := Tryz.sizeOf115,
  v164 := Tryz.zeroValue115 }
theorem joinLay_x : Builder.Extra Tryz.prog joinLay_ren := {
  sizeBuilder := by kernel_rfl,
  liesBuilder := by kernel_rfl,
  t5 := Tryz.underlying5,
  a5 := Tryz.isAgg5,
  z5 := Tryz.sizeOf5,
  v5 := Tryz.zeroValue5,
  infoByte := by kernel_rfl,
  cellsByte := by kernel_rfl,
  sizeByte := by kernel_rfl,
  neB5 := by decide }
-- written by shelflay.py for the seat YtfeccicogcnhcaaGreatDoor
def bwrLay_ren : Go.Shelf.Ren := ⟨fun | 166 => 26 | 240 => 50 | 276 => 78 | n => n, fun | 70 => 64 | 9 => 9 | 3 => 3 | 75 => 29 | 0 => 0 | 72 => 67 | 37 => 65 | 4 => 4 | 164 => 115 | 80 => 72 | 5 => 5 | 20 => 20 | n => n, fun | n => n⟩
theorem bwrLay : Go.Proofs.Lays.n166 Tryz.prog bwrLay_ren := {
  mixed := by kernel_rfl,
  f166 := Tryz.func26.trans (congrArg some (by kernel_rfl)),
  f240 := Tryz.func50.trans (congrArg some (by kernel_rfl)),
  f276 := Tryz.func78.trans (congrArg some (by kernel_rfl)),
  t0 := Tryz.underlying0,
  a0 := Tryz.isAgg0,
  z0 := Tryz.sizeOf0,
  v0 := Tryz.zeroValue0,
  t3 := Tryz.underlying3,
  a3 := Tryz.isAgg3,
  z3 := Tryz.sizeOf3,
  v3 := Tryz.zeroValue3,
  t4 := Tryz.underlying4,
  a4 := Tryz.isAgg4,
  z4 := Tryz.sizeOf4,
  v4 := Tryz.zeroValue4,
  t9 := Tryz.underlying9,
  a9 := Tryz.isAgg9,
  z9 := Tryz.sizeOf9,
  v9 := Tryz.zeroValue9,
  t20 := Tryz.underlying20,
  a20 := Tryz.isAgg20,
  z20 := Tryz.sizeOf20,
  v20 := Tryz.zeroValue20,
  t37 := Tryz.underlying65,
  a37 := Tryz.isAgg65,
  z37 := Tryz.sizeOf65,
  v37 := Tryz.zeroValue65,
  t70 := Tryz.underlying64,
  a70 := Tryz.isAgg64,
  z70 := Tryz.sizeOf64,
  v70 := Tryz.zeroValue64,
  t72 := Tryz.underlying67,
  a72 := Tryz.isAgg67,
  z72 := Tryz.sizeOf67,
  v72 := Tryz.zeroValue67,
  t75 := Tryz.underlying29,
  a75 := Tryz.isAgg29,
  z75 := Tryz.sizeOf29,
  v75 := Tryz.zeroValue29,
  t164 := Tryz.underlying115,
  a164 := Tryz.isAgg115,
  z164 := Tryz.sizeOf115,
  v164 := Tryz.zeroValue115 }
theorem bwrLay_x : Builder.Extra Tryz.prog bwrLay_ren := {
  sizeBuilder := by kernel_rfl,
  liesBuilder := by kernel_rfl,
  t5 := Tryz.underlying5,
  a5 := Tryz.isAgg5,
  z5 := Tryz.sizeOf5,
  v5 := Tryz.zeroValue5,
  infoByte := by kernel_rfl,
  cellsByte := by kernel_rfl,
  sizeByte := by kernel_rfl,
  neB5 := by decide }
-- written by shelflay.py for the seat YtfeccicogcnhcaaGreatDoor
def bstrLay_ren : Go.Shelf.Ren := ⟨fun | 169 => 28 | n => n, fun | 70 => 64 | 9 => 9 | 0 => 0 | 72 => 67 | 37 => 65 | 127 => 98 | 3 => 3 | 5 => 5 | 20 => 20 | n => n, fun | n => n⟩
theorem bstrLay : Go.Proofs.Lays.n169 Tryz.prog bstrLay_ren := {
  mixed := by kernel_rfl,
  f169 := Tryz.func28.trans (congrArg some (by kernel_rfl)),
  t0 := Tryz.underlying0,
  a0 := Tryz.isAgg0,
  z0 := Tryz.sizeOf0,
  v0 := Tryz.zeroValue0,
  t3 := Tryz.underlying3,
  a3 := Tryz.isAgg3,
  z3 := Tryz.sizeOf3,
  v3 := Tryz.zeroValue3,
  t9 := Tryz.underlying9,
  a9 := Tryz.isAgg9,
  z9 := Tryz.sizeOf9,
  v9 := Tryz.zeroValue9,
  t37 := Tryz.underlying65,
  a37 := Tryz.isAgg65,
  z37 := Tryz.sizeOf65,
  v37 := Tryz.zeroValue65,
  t70 := Tryz.underlying64,
  a70 := Tryz.isAgg64,
  z70 := Tryz.sizeOf64,
  v70 := Tryz.zeroValue64,
  t72 := Tryz.underlying67,
  a72 := Tryz.isAgg67,
  z72 := Tryz.sizeOf67,
  v72 := Tryz.zeroValue67,
  t127 := Tryz.underlying98,
  a127 := Tryz.isAgg98,
  z127 := Tryz.sizeOf98,
  v127 := Tryz.zeroValue98 }
theorem bstrLay_x : Builder.Extra Tryz.prog bstrLay_ren := {
  sizeBuilder := by kernel_rfl,
  liesBuilder := by kernel_rfl,
  t5 := Tryz.underlying5,
  a5 := Tryz.isAgg5,
  z5 := Tryz.sizeOf5,
  v5 := Tryz.zeroValue5,
  infoByte := by kernel_rfl,
  cellsByte := by kernel_rfl,
  sizeByte := by kernel_rfl,
  neB5 := by decide }
-- written by shelflay.py for the seat YtfeccicogcnhcaaGreatDoor
def itoaSLay_ren : Go.Shelf.Ren := ⟨fun | 171 => 27 | 243 => 51 | 246 => 79 | 283 => 101 | 284 => 102 | 285 => 103 | 286 => 104 | 129 => 119 | 317 => 118 | 318 => 120 | 319 => 121 | 320 => 122 | 337 => 138 | 338 => 139 | n => n, fun | 3 => 3 | 9 => 9 | 2 => 2 | 4 => 4 | 171 => 161 | 0 => 0 | 53 => 162 | 37 => 65 | 5 => 5 | 173 => 165 | 212 => 175 | 51 => 176 | 20 => 20 | 213 => 177 | 46 => 171 | 232 => 205 | 233 => 206 | n => n, fun | 17 => 3 | 18 => 8 | 19 => 9 | n => n⟩
theorem itoaSLay : Go.Proofs.Lays.n171 Tryz.prog itoaSLay_ren := {
  mixed := by kernel_rfl,
  f129 := Tryz.func119.trans (congrArg some (by kernel_rfl)),
  f171 := Tryz.func27.trans (congrArg some (by kernel_rfl)),
  f243 := Tryz.func51.trans (congrArg some (by kernel_rfl)),
  f246 := Tryz.func79.trans (congrArg some (by kernel_rfl)),
  f283 := Tryz.func101.trans (congrArg some (by kernel_rfl)),
  f284 := Tryz.func102.trans (congrArg some (by kernel_rfl)),
  f285 := Tryz.func103.trans (congrArg some (by kernel_rfl)),
  f286 := Tryz.func104.trans (congrArg some (by kernel_rfl)),
  f317 := Tryz.func118.trans (congrArg some (by kernel_rfl)),
  f318 := Tryz.func120.trans (congrArg some (by kernel_rfl)),
  f319 := Tryz.func121.trans (congrArg some (by kernel_rfl)),
  f320 := Tryz.func122.trans (congrArg some (by kernel_rfl)),
  f337 := Tryz.func138.trans (congrArg some (by kernel_rfl)),
  f338 := Tryz.func139.trans (congrArg some (by kernel_rfl)),
  t0 := Tryz.underlying0,
  a0 := Tryz.isAgg0,
  z0 := Tryz.sizeOf0,
  v0 := Tryz.zeroValue0,
  t2 := Tryz.underlying2,
  a2 := Tryz.isAgg2,
  z2 := Tryz.sizeOf2,
  v2 := Tryz.zeroValue2,
  t3 := Tryz.underlying3,
  a3 := Tryz.isAgg3,
  z3 := Tryz.sizeOf3,
  v3 := Tryz.zeroValue3,
  t4 := Tryz.underlying4,
  a4 := Tryz.isAgg4,
  z4 := Tryz.sizeOf4,
  v4 := Tryz.zeroValue4,
  t5 := Tryz.underlying5,
  a5 := Tryz.isAgg5,
  z5 := Tryz.sizeOf5,
  v5 := Tryz.zeroValue5,
  t9 := Tryz.underlying9,
  a9 := Tryz.isAgg9,
  z9 := Tryz.sizeOf9,
  v9 := Tryz.zeroValue9,
  t20 := Tryz.underlying20,
  a20 := Tryz.isAgg20,
  z20 := Tryz.sizeOf20,
  v20 := Tryz.zeroValue20,
  t37 := Tryz.underlying65,
  a37 := Tryz.isAgg65,
  z37 := Tryz.sizeOf65,
  v37 := Tryz.zeroValue65,
  t46 := Tryz.underlying171,
  a46 := Tryz.isAgg171,
  z46 := Tryz.sizeOf171,
  v46 := Tryz.zeroValue171,
  t51 := Tryz.underlying176,
  a51 := Tryz.isAgg176,
  z51 := Tryz.sizeOf176,
  v51 := Tryz.zeroValue176,
  t53 := Tryz.underlying162,
  a53 := Tryz.isAgg162,
  z53 := Tryz.sizeOf162,
  v53 := Tryz.zeroValue162,
  t171 := Tryz.underlying161,
  a171 := Tryz.isAgg161,
  z171 := Tryz.sizeOf161,
  v171 := Tryz.zeroValue161,
  t173 := Tryz.underlying165,
  a173 := Tryz.isAgg165,
  z173 := Tryz.sizeOf165,
  v173 := Tryz.zeroValue165,
  t212 := Tryz.underlying175,
  a212 := Tryz.isAgg175,
  z212 := Tryz.sizeOf175,
  v212 := Tryz.zeroValue175,
  t213 := Tryz.underlying177,
  a213 := Tryz.isAgg177,
  z213 := Tryz.sizeOf177,
  t232 := Tryz.underlying205,
  a232 := Tryz.isAgg205,
  z232 := Tryz.sizeOf205,
  v232 := Tryz.zeroValue205,
  t233 := Tryz.underlying206,
  a233 := Tryz.isAgg206,
  z233 := Tryz.sizeOf206,
  v233 := Tryz.zeroValue206,
  g17 := by kernel_rfl,
  g18 := by kernel_rfl,
  g19 := by kernel_rfl }
-- written by shelflay.py for the seat YtfeccicogcnhcaaGreatDoor
def itoaLay_ren : Go.Shelf.Ren := ⟨fun | 171 => 27 | 243 => 51 | 246 => 79 | 283 => 101 | 284 => 102 | 285 => 103 | 286 => 104 | 129 => 119 | 317 => 118 | 318 => 120 | 319 => 121 | 320 => 122 | 337 => 138 | 338 => 139 | n => n, fun | 3 => 3 | 9 => 9 | 2 => 2 | 4 => 4 | 171 => 161 | 0 => 0 | 53 => 162 | 37 => 65 | 5 => 5 | 173 => 165 | 212 => 175 | 51 => 176 | 20 => 20 | 213 => 177 | 46 => 171 | 232 => 205 | 233 => 206 | n => n, fun | 17 => 3 | 18 => 8 | 19 => 9 | n => n⟩
theorem itoaLay : Go.Proofs.LaysM.n171 Tryz.prog itoaLay_ren := {
  mixed := by kernel_rfl,
  f129 := Tryz.func119.trans (congrArg some (by kernel_rfl)),
  f171 := Tryz.func27.trans (congrArg some (by kernel_rfl)),
  f243 := Tryz.func51.trans (congrArg some (by kernel_rfl)),
  f246 := Tryz.func79.trans (congrArg some (by kernel_rfl)),
  f283 := Tryz.func101.trans (congrArg some (by kernel_rfl)),
  f284 := Tryz.func102.trans (congrArg some (by kernel_rfl)),
  f285 := Tryz.func103.trans (congrArg some (by kernel_rfl)),
  f286 := Tryz.func104.trans (congrArg some (by kernel_rfl)),
  f317 := Tryz.func118.trans (congrArg some (by kernel_rfl)),
  f318 := Tryz.func120.trans (congrArg some (by kernel_rfl)),
  f319 := Tryz.func121.trans (congrArg some (by kernel_rfl)),
  f320 := Tryz.func122.trans (congrArg some (by kernel_rfl)),
  f337 := Tryz.func138.trans (congrArg some (by kernel_rfl)),
  f338 := Tryz.func139.trans (congrArg some (by kernel_rfl)),
  t0 := Tryz.underlying0,
  a0 := Tryz.isAgg0,
  z0 := Tryz.sizeOf0,
  v0 := Tryz.zeroValue0,
  t2 := Tryz.underlying2,
  a2 := Tryz.isAgg2,
  z2 := Tryz.sizeOf2,
  v2 := Tryz.zeroValue2,
  t3 := Tryz.underlying3,
  a3 := Tryz.isAgg3,
  z3 := Tryz.sizeOf3,
  v3 := Tryz.zeroValue3,
  t4 := Tryz.underlying4,
  a4 := Tryz.isAgg4,
  z4 := Tryz.sizeOf4,
  v4 := Tryz.zeroValue4,
  t5 := Tryz.underlying5,
  a5 := Tryz.isAgg5,
  z5 := Tryz.sizeOf5,
  v5 := Tryz.zeroValue5,
  t9 := Tryz.underlying9,
  a9 := Tryz.isAgg9,
  z9 := Tryz.sizeOf9,
  v9 := Tryz.zeroValue9,
  t20 := Tryz.underlying20,
  a20 := Tryz.isAgg20,
  z20 := Tryz.sizeOf20,
  v20 := Tryz.zeroValue20,
  t37 := Tryz.underlying65,
  a37 := Tryz.isAgg65,
  z37 := Tryz.sizeOf65,
  v37 := Tryz.zeroValue65,
  t46 := Tryz.underlying171,
  a46 := Tryz.isAgg171,
  z46 := Tryz.sizeOf171,
  v46 := Tryz.zeroValue171,
  t51 := Tryz.underlying176,
  a51 := Tryz.isAgg176,
  z51 := Tryz.sizeOf176,
  v51 := Tryz.zeroValue176,
  t53 := Tryz.underlying162,
  a53 := Tryz.isAgg162,
  z53 := Tryz.sizeOf162,
  v53 := Tryz.zeroValue162,
  t171 := Tryz.underlying161,
  a171 := Tryz.isAgg161,
  z171 := Tryz.sizeOf161,
  v171 := Tryz.zeroValue161,
  t173 := Tryz.underlying165,
  a173 := Tryz.isAgg165,
  z173 := Tryz.sizeOf165,
  v173 := Tryz.zeroValue165,
  t212 := Tryz.underlying175,
  a212 := Tryz.isAgg175,
  z212 := Tryz.sizeOf175,
  v212 := Tryz.zeroValue175,
  t213 := Tryz.underlying177,
  a213 := Tryz.isAgg177,
  z213 := Tryz.sizeOf177,
  t232 := Tryz.underlying205,
  a232 := Tryz.isAgg205,
  z232 := Tryz.sizeOf205,
  v232 := Tryz.zeroValue205,
  t233 := Tryz.underlying206,
  a233 := Tryz.isAgg206,
  z233 := Tryz.sizeOf206,
  v233 := Tryz.zeroValue206,
  g17 := by kernel_rfl,
  g18 := by kernel_rfl,
  g19 := by kernel_rfl,
  i0 := by kernel_rfl,
  i2 := by kernel_rfl,
  i3 := by kernel_rfl,
  i4 := by kernel_rfl,
  i5 := by kernel_rfl,
  i9 := by kernel_rfl,
  i20 := by kernel_rfl,
  i37 := by kernel_rfl,
  i46 := by kernel_rfl,
  i51 := by kernel_rfl,
  i53 := by kernel_rfl,
  i171 := by kernel_rfl,
  i173 := by kernel_rfl,
  i212 := by kernel_rfl,
  i232 := by kernel_rfl,
  i233 := by kernel_rfl,
  m17 := by kernel_rfl,
  m18 := by kernel_rfl,
  m19 := by kernel_rfl }
-- written by shelflay.py for the seat YtfeccicogcnhcaaGreatDoor
def atoiLay_ren : Go.Shelf.Ren := ⟨fun | 172 => 89 | 244 => 112 | 245 => 113 | 247 => 131 | 279 => 132 | 280 => 133 | 281 => 134 | 282 => 135 | 287 => 142 | 316 => 143 | 171 => 27 | 205 => 144 | 321 => 146 | 322 => 147 | 243 => 51 | 246 => 79 | 283 => 101 | 284 => 102 | 285 => 103 | 286 => 104 | 129 => 119 | 317 => 118 | 318 => 120 | 319 => 121 | 320 => 122 | 337 => 138 | 338 => 139 | n => n, fun | 9 => 9 | 3 => 3 | 75 => 29 | 76 => 70 | 4 => 4 | 5 => 5 | 167 => 184 | 37 => 65 | 0 => 0 | 85 => 185 | 2 => 2 | 168 => 187 | 53 => 162 | 175 => 199 | 46 => 171 | 210 => 203 | 127 => 98 | 145 => 210 | 143 => 208 | 21 => 21 | 171 => 161 | 173 => 165 | 212 => 175 | 51 => 176 | 20 => 20 | 213 => 177 | 232 => 205 | 233 => 206 | 80 => 72 | n => n, fun | 15 => 6 | 16 => 7 | 17 => 3 | 18 => 8 | 19 => 9 | n => n⟩
theorem atoiLay : Go.Proofs.LaysC.n172 Tryz.prog atoiLay_ren := {
  mixed := by kernel_rfl,
  f129 := Tryz.func119.trans (congrArg some (by kernel_rfl)),
  f171 := Tryz.func27.trans (congrArg some (by kernel_rfl)),
  f172 := Tryz.func89.trans (congrArg some (by kernel_rfl)),
  f205 := Tryz.func144.trans (congrArg some (by kernel_rfl)),
  f243 := Tryz.func51.trans (congrArg some (by kernel_rfl)),
  f244 := Tryz.func112.trans (congrArg some (by kernel_rfl)),
  f245 := Tryz.func113.trans (congrArg some (by kernel_rfl)),
  f246 := Tryz.func79.trans (congrArg some (by kernel_rfl)),
  f247 := Tryz.func131.trans (congrArg some (by kernel_rfl)),
  f279 := Tryz.func132.trans (congrArg some (by kernel_rfl)),
  f280 := Tryz.func133.trans (congrArg some (by kernel_rfl)),
  f281 := Tryz.func134.trans (congrArg some (by kernel_rfl)),
  f282 := Tryz.func135.trans (congrArg some (by kernel_rfl)),
  f283 := Tryz.func101.trans (congrArg some (by kernel_rfl)),
  f284 := Tryz.func102.trans (congrArg some (by kernel_rfl)),
  f285 := Tryz.func103.trans (congrArg some (by kernel_rfl)),
  f286 := Tryz.func104.trans (congrArg some (by kernel_rfl)),
  f287 := Tryz.func142.trans (congrArg some (by kernel_rfl)),
  f316 := Tryz.func143.trans (congrArg some (by kernel_rfl)),
  f317 := Tryz.func118.trans (congrArg some (by kernel_rfl)),
  f318 := Tryz.func120.trans (congrArg some (by kernel_rfl)),
  f319 := Tryz.func121.trans (congrArg some (by kernel_rfl)),
  f320 := Tryz.func122.trans (congrArg some (by kernel_rfl)),
  f321 := Tryz.func146.trans (congrArg some (by kernel_rfl)),
  f322 := Tryz.func147.trans (congrArg some (by kernel_rfl)),
  f337 := Tryz.func138.trans (congrArg some (by kernel_rfl)),
  f338 := Tryz.func139.trans (congrArg some (by kernel_rfl)),
  t0 := Tryz.underlying0,
  a0 := Tryz.isAgg0,
  z0 := Tryz.sizeOf0,
  v0 := Tryz.zeroValue0,
  t2 := Tryz.underlying2,
  a2 := Tryz.isAgg2,
  z2 := Tryz.sizeOf2,
  v2 := Tryz.zeroValue2,
  t3 := Tryz.underlying3,
  a3 := Tryz.isAgg3,
  z3 := Tryz.sizeOf3,
  v3 := Tryz.zeroValue3,
  t4 := Tryz.underlying4,
  a4 := Tryz.isAgg4,
  z4 := Tryz.sizeOf4,
  v4 := Tryz.zeroValue4,
  t5 := Tryz.underlying5,
  a5 := Tryz.isAgg5,
  z5 := Tryz.sizeOf5,
  v5 := Tryz.zeroValue5,
  t9 := Tryz.underlying9,
  a9 := Tryz.isAgg9,
  z9 := Tryz.sizeOf9,
  v9 := Tryz.zeroValue9,
  t20 := Tryz.underlying20,
  a20 := Tryz.isAgg20,
  z20 := Tryz.sizeOf20,
  v20 := Tryz.zeroValue20,
  t21 := Tryz.underlying21,
  a21 := Tryz.isAgg21,
  z21 := Tryz.sizeOf21,
  v21 := Tryz.zeroValue21,
  t37 := Tryz.underlying65,
  a37 := Tryz.isAgg65,
  z37 := Tryz.sizeOf65,
  v37 := Tryz.zeroValue65,
  t46 := Tryz.underlying171,
  a46 := Tryz.isAgg171,
  z46 := Tryz.sizeOf171,
  v46 := Tryz.zeroValue171,
  t51 := Tryz.underlying176,
  a51 := Tryz.isAgg176,
  z51 := Tryz.sizeOf176,
  v51 := Tryz.zeroValue176,
  t53 := Tryz.underlying162,
  a53 := Tryz.isAgg162,
  z53 := Tryz.sizeOf162,
  v53 := Tryz.zeroValue162,
  t75 := Tryz.underlying29,
  a75 := Tryz.isAgg29,
  z75 := Tryz.sizeOf29,
  v75 := Tryz.zeroValue29,
  t76 := Tryz.underlying70,
  a76 := Tryz.isAgg70,
  z76 := Tryz.sizeOf70,
  v76 := Tryz.zeroValue70,
  t85 := Tryz.underlying185,
  a85 := Tryz.isAgg185,
  z85 := Tryz.sizeOf185,
  v85 := Tryz.zeroValue185,
  t127 := Tryz.underlying98,
  a127 := Tryz.isAgg98,
  z127 := Tryz.sizeOf98,
  v127 := Tryz.zeroValue98,
  t143 := Tryz.underlying208,
  a143 := Tryz.isAgg208,
  z143 := Tryz.sizeOf208,
  v143 := Tryz.zeroValue208,
  t145 := Tryz.underlying210,
  a145 := Tryz.isAgg210,
  z145 := Tryz.sizeOf210,
  v145 := Tryz.zeroValue210,
  t167 := Tryz.underlying184,
  a167 := Tryz.isAgg184,
  z167 := Tryz.sizeOf184,
  v167 := Tryz.zeroValue184,
  t168 := Tryz.underlying187,
  a168 := Tryz.isAgg187,
  z168 := Tryz.sizeOf187,
  v168 := Tryz.zeroValue187,
  t171 := Tryz.underlying161,
  a171 := Tryz.isAgg161,
  z171 := Tryz.sizeOf161,
  v171 := Tryz.zeroValue161,
  t173 := Tryz.underlying165,
  a173 := Tryz.isAgg165,
  z173 := Tryz.sizeOf165,
  v173 := Tryz.zeroValue165,
  t175 := Tryz.underlying199,
  a175 := Tryz.isAgg199,
  z175 := Tryz.sizeOf199,
  v175 := Tryz.zeroValue199,
  t210 := Tryz.underlying203,
  a210 := Tryz.isAgg203,
  z210 := Tryz.sizeOf203,
  v210 := Tryz.zeroValue203,
  t212 := Tryz.underlying175,
  a212 := Tryz.isAgg175,
  z212 := Tryz.sizeOf175,
  v212 := Tryz.zeroValue175,
  t213 := Tryz.underlying177,
  a213 := Tryz.isAgg177,
  z213 := Tryz.sizeOf177,
  t232 := Tryz.underlying205,
  a232 := Tryz.isAgg205,
  z232 := Tryz.sizeOf205,
  v232 := Tryz.zeroValue205,
  t233 := Tryz.underlying206,
  a233 := Tryz.isAgg206,
  z233 := Tryz.sizeOf206,
  v233 := Tryz.zeroValue206,
  g15 := by kernel_rfl,
  g16 := by kernel_rfl,
  g17 := by kernel_rfl,
  g18 := by kernel_rfl,
  g19 := by kernel_rfl,
  t80 := Tryz.underlying72,
  a80 := Tryz.isAgg72,
  z80 := Tryz.sizeOf72,
  v80 := Tryz.zeroValue72,
  i0 := by kernel_rfl,
  i2 := by kernel_rfl,
  i3 := by kernel_rfl,
  i4 := by kernel_rfl,
  i5 := by kernel_rfl,
  i9 := by kernel_rfl,
  i20 := by kernel_rfl,
  i21 := by kernel_rfl,
  i37 := by kernel_rfl,
  i46 := by kernel_rfl,
  i51 := by kernel_rfl,
  i53 := by kernel_rfl,
  i75 := by kernel_rfl,
  i76 := by kernel_rfl,
  i80 := by kernel_rfl,
  i85 := by kernel_rfl,
  i127 := by kernel_rfl,
  i143 := by kernel_rfl,
  i145 := by kernel_rfl,
  i167 := by kernel_rfl,
  i168 := by kernel_rfl,
  i171 := by kernel_rfl,
  i173 := by kernel_rfl,
  i175 := by kernel_rfl,
  i210 := by kernel_rfl,
  i212 := by kernel_rfl,
  i232 := by kernel_rfl,
  i233 := by kernel_rfl,
  m15 := by kernel_rfl,
  m16 := by kernel_rfl,
  m17 := by kernel_rfl,
  m18 := by kernel_rfl,
  m19 := by kernel_rfl,
  c0 := by kernel_rfl,
  c2 := by kernel_rfl,
  c3 := by kernel_rfl,
  c4 := by kernel_rfl,
  c5 := by kernel_rfl,
  c9 := by kernel_rfl,
  c20 := by kernel_rfl,
  c21 := by kernel_rfl,
  c37 := by kernel_rfl,
  c46 := by kernel_rfl,
  c51 := by kernel_rfl,
  c53 := by kernel_rfl,
  c75 := by kernel_rfl,
  c76 := by kernel_rfl,
  c80 := by kernel_rfl,
  c85 := by kernel_rfl,
  c127 := by kernel_rfl,
  c143 := by kernel_rfl,
  c145 := by kernel_rfl,
  c167 := by kernel_rfl,
  c168 := by kernel_rfl,
  c171 := by kernel_rfl,
  c173 := by kernel_rfl,
  c175 := by kernel_rfl,
  c210 := by kernel_rfl,
  c212 := by kernel_rfl,
  c213 := by kernel_rfl,
  c232 := by kernel_rfl,
  c233 := by kernel_rfl }

theorem tx_join (bk o c : Nat) (xs : List ByteArray) (sep : ByteArray) (w : World) (hcells : ∀ (j : Nat) x, xs[j]? = some x → w.cell? ⟨bk, o + j, none⟩ = some (.string x)) (hbk : bk < w.heap.size) (hN : xs.length ≤ 140737488355328) (hcap : xs.length ≤ c)
    (hlen : (Lib.join (xs.map (·.data.toList)) sep.data.toList).length ≤ 140737488355328) :
    Calls Tryz.prog 25 #[.slice (some ⟨bk, o, none⟩) xs.length c, .string sep] w fun e w' => e = .returned (.string ⟨(Lib.join (xs.map (·.data.toList)) sep.data.toList).toArray⟩) ∧ Below w.heap.size w w' :=
  Any.strings_Join joinLay joinLay_x bk o c xs sep w hcells hbk hN hcap hlen
/-- A builder of the call's own, and what is in it. -/
def Bld (B b : Nat) (l : List UInt8) (w : World) : Prop := Lib.IsBuilderF 67 5 B b (Lib.byteCells l) w
theorem tx_write (B b : Nat) (l : List UInt8) (s : ByteArray) (w : World) (h : Bld B b l w) (hlen : l.length + s.size ≤ 140737488355328) (hB : B ≤ w.heap.size) :
    Calls Tryz.prog 26 #[.pointer (some ⟨b, 0, none⟩), .string s] w fun e w' => e = .returned (.tuple #[.int .i64 s.size, .nilIface]) ∧ Bld B b (l ++ s.data.toList) w' ∧ Below B w w' := by
  refine (Any.Builder_WriteString_f bwrLay bwrLay_x B b (Lib.byteCells l) s w h (by rw [Lib.byteCells_length]; exact hlen) hB).mono fun e w' ⟨h1, h2, h3⟩ => ⟨h1, .inr ?_, h3⟩
  rw [Lib.byteCells_append]
  exact h2
/-- The same, and what else stays. -/
theorem tx_writeK (B b : Nat) (l : List UInt8) (s : ByteArray) (w : World) (h : Bld B b l w) (hlen : l.length + s.size ≤ 140737488355328) (hB : B ≤ w.heap.size) :
    Calls Tryz.prog 26 #[.pointer (some ⟨b, 0, none⟩), .string s] w fun e w' => e = .returned (.tuple #[.int .i64 s.size, .nilIface]) ∧ Bld B b (l ++ s.data.toList) w' ∧ Below B w w' ∧ Lib.OthersKept 5 (some b) w w' := by
  refine (Any.Builder_WriteString_k bwrLay bwrLay_x B b (Lib.byteCells l) s w h (by rw [Lib.byteCells_length]; exact hlen) hB).mono fun e w' ⟨h1, h2, h3, h4⟩ => ⟨h1, .inr ?_, h3, h4⟩
  rw [Lib.byteCells_append]
  exact h2
theorem tx_string (B b : Nat) (l : List UInt8) (w : World) (h : Bld B b l w) (hB : B ≤ w.heap.size) :
    Calls Tryz.prog 28 #[.pointer (some ⟨b, 0, none⟩)] w fun e w' => e = .returned (.string ⟨l.toArray⟩) ∧ Below B w w' :=
  (Any.Builder_String_any_f bstrLay bstrLay_x B b l w h hB).mono fun _ _ ⟨h1, _, h3⟩ => ⟨h1, h3⟩
theorem Bld.below {B b : Nat} {l : List UInt8} {w w' : World} (h : Bld B b l w) (hb : Below w.heap.size w w') : Bld B b l w' := Lib.IsBuilderF.below h hb
theorem Bld.fresh {B : Nat} {w : World} (hB : B ≤ w.heap.size) : Bld B w.heap.size [] (w.alloc (.cells #[.pointer none, .slice none 0 0] 67)) :=
  .inl ⟨hB, .slice none 0 0, heap_alloc_new _ _, ⟨rfl, .inl ⟨rfl, rfl⟩⟩, by simp [Value.ownBlock]⟩
theorem tx_itoaS (i : Nat) (hi : i < 100) (w : World) : Calls Tryz.prog 27 #[.int .i64 i] w fun e w' => e = .returned (.string ⟨(Lib.decDigits i).toArray⟩) ∧ w' = w :=
  Any.strconv_Itoa_small itoaSLay i hi w
theorem tx_itoa (n : Int) (h0 : -9223372036854775808 ≤ n) (h1 : n ≤ 9223372036854775807) (w : World) (htab : Lib.TabIs Tryz.prog w "internal/strconv.uint64pow10" .u64 Lib.pow10Tab) :
    Calls Tryz.prog 27 #[.int .i64 n] w fun e w' => e = .returned (.string ⟨(Lib.itoa n).toArray⟩) ∧ Below w.heap.size w w' :=
  (Any.strconv_Itoa itoaLay n h0 h1 w htab).mono fun e w' ⟨h, k, os, hw⟩ => ⟨h, by rw [hw]; exact Lib.below_grow _ w (Nat.le_refl _) k os⟩
/-- What the library's texts lean on where they are written: the length up to which a text is searched by bytes; the powers of ten. -/
structure TxP (w : World) : Prop where
  len : ∃ m, w.cell? ⟨2, 0, none⟩ = some (.int .i64 m)
  tab : Lib.TabIs Tryz.prog w "internal/strconv.uint64pow10" .u64 Lib.pow10Tab
theorem TxP.below {w w' : World} (h : TxP w) (hb : Below w.heap.size w w') : TxP w' where
  len := by obtain ⟨m, hm⟩ := h.len; exact ⟨m, cell_below hb hm⟩
  tab := Joins.tab_stays (g := 3) (by kernel_rfl) h.tab hb (Nat.le_refl _)
/-- And where they are read: two errors. -/
structure TxOk (w : World) : Prop extends TxP w where
  sy : ∃ tp p, w.var? Tryz.prog "strconv.ErrSyntax" = some #[.iface tp p]
  ra : ∃ tp p, w.var? Tryz.prog "strconv.ErrRange" = some #[.iface tp p]
theorem TxOk.below {w w' : World} (h : TxOk w) (hb : Below w.heap.size w w') : TxOk w' where
  toTxP := h.toTxP.below hb
  sy := by obtain ⟨tp, p, hm⟩ := h.sy; exact ⟨tp, p, Joins.var_stays (g := 6) (by kernel_rfl) hm hb (Nat.le_refl _)⟩
  ra := by obtain ⟨tp, p, hm⟩ := h.ra; exact ⟨tp, p, Joins.var_stays (g := 7) (by kernel_rfl) hm hb (Nat.le_refl _)⟩
/-- What Atoi answers: the number; or an error. -/
def AtoiR (s : ByteArray) (w : World) (e : Ending) (w' : World) : Prop := Below w.heap.size w w' ∧ ((∃ v, Lib.atoiAll s.data.toList = .ok v ∧ e = .returned (.tuple #[.int .i64 v, .nilIface])) ∨ ((∀ v, Lib.atoiAll s.data.toList ≠ .ok v) ∧ ∃ n tp p, e = .returned (.tuple #[.int .i64 n, .iface tp p])))
theorem tx_atoi (s : ByteArray) (w : World) (h : TxOk w) (hs : s.size ≤ 281474976710656) : Calls Tryz.prog 89 #[.string s] w (AtoiR s w) := by
  cases hq : Lib.atoiAll s.data.toList with
  | ok v =>
    refine (Any.strconv_Atoi_ok atoiLay s (by omega) v hq w).mono fun e w' ⟨he, hw⟩ => ⟨?_, .inl ⟨v, hq, he⟩⟩
    rcases hw with rfl | ⟨t, rfl⟩
    · exact Below.refl _ _
    · exact Lib.bytesWorld_below _ _ _
  | «syntax» =>
    obtain ⟨tp, p, hv⟩ := h.sy
    refine (Any.strconv_Atoi_syntax_var atoiLay s hs hq tp p w hv).mono fun e w' ⟨N, he, _, _, hb⟩ => ⟨hb, .inr ⟨fun v hv => (by rw [hq] at hv; cases hv), _, _, _, he⟩⟩
  | range =>
    obtain ⟨tp, p, hv⟩ := h.ra
    refine (Any.strconv_Atoi_range_var atoiLay s hs hq tp p w hv).mono fun e w' ⟨N, he, _, _, hb⟩ => ⟨hb, .inr ⟨fun v hv => (by rw [hq] at hv; cases hv), _, _, _, he⟩⟩
end Go.Proofs.YtfeccicogcnhcaaGreatDoor
