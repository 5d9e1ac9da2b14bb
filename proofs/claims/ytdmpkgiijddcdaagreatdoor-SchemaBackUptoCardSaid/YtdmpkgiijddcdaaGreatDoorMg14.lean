/- Parts: VtH. -/
import Derived.Test.YtdmpkgiijddcdaaGreatDoorMg08
import Derived.Test.YtdmpkgiijddcdaaGreatDoorMg13
/- Plain: a text as a schema. No condition. -/
namespace Go.Proofs.YtdmpkgiijddcdaaGreatDoor
open Go

/-- A text that is a word: it is not empty, and has neither , nor : in it. -/
def wordB (l : List UInt8) : Bool := !l.isEmpty && !l.any fun c => c == 44 || c == 58
theorem word_iff {l : List UInt8} : wordB l = true ↔ l ≠ [] ∧ noB 44 l ∧ noB 58 l := by
  unfold wordB
  rw [Bool.and_eq_true, Bool.not_eq_true', Bool.not_eq_true']
  constructor
  · rintro ⟨h1, h2⟩
    refine ⟨fun e => by rw [e] at h1; exact absurd h1 (by decide), fun x hx e => ?_, fun x hx e => ?_⟩
    · have : l.any (fun c => c == 44 || c == 58) = true := List.any_eq_true.2 ⟨x, hx, by subst e; decide⟩
      rw [h2] at this; cases this
    · have : l.any (fun c => c == 44 || c == 58) = true := List.any_eq_true.2 ⟨x, hx, by subst e; decide⟩
      rw [h2] at this; cases this
  · rintro ⟨h1, h2, h3⟩
    refine ⟨List.isEmpty_eq_false_iff.2 h1, ?_⟩
    cases hq : l.any (fun c => c == 44 || c == 58) with
    | false => rfl
    | true =>
      obtain ⟨x, hx, hc⟩ := List.any_eq_true.1 hq
      rw [Bool.or_eq_true, beq_iff_eq, beq_iff_eq] at hc
      rcases hc with e | e
      · exact absurd e (h2 x hx)
      · exact absurd e (h3 x hx)
theorem word_name {s : ByteArray} (h : nameE s = 0) : wordB s.data.toList = true := word_iff.2 ⟨name_ne h, name_no h (by decide), name_no h (by decide)⟩
def kindW : List UInt8 := [107, 105, 110, 100]
def bondW : List UInt8 := [98, 111, 110, 100]
def ofW : List UInt8 := [111, 102]
def anyW : List UInt8 := [97, 110, 121]
/-- The number of a type's word. -/
def typN (l : List UInt8) : Int := if l = [] then 0 else if l = [105, 110, 116] then 1 else if l = [98, 111, 111, 108] then 2 else if l = [116, 101, 120, 116] then 3 else -1
theorem typ_typ {ty : Int} (h : tyB ty = true) : typN (typL ty) = ty ∧ 0 < ty := by
  unfold tyB at h
  simp at h
  have h3 : ty = 1 ∨ ty = 2 ∨ ty = 3 := by omega
  rcases h3 with rfl | rfl | rfl
  · exact ⟨rfl, by decide⟩
  · exact ⟨rfl, by decide⟩
  · exact ⟨rfl, by decide⟩
theorem typ_of {l : List UInt8} (h : 0 < typN l) : typL (typN l) = l := by
  unfold typN at h ⊢
  split at h
  · omega
  · rename_i h0
    rw [if_neg h0]
    split at h
    · rename_i h1; rw [if_pos h1, h1]; rfl
    · rename_i h1
      rw [if_neg h1]
      split at h
      · rename_i h2; rw [if_pos h2, h2]; rfl
      · rename_i h2
        rw [if_neg h2]
        split at h
        · rename_i h3; rw [if_pos h3, h3]; rfl
        · omega
/-- What stands behind a type's word: must it be, is it a key. -/
def signB (r : List UInt8) : Bool × Bool × List UInt8 := if Lib.hasSuffix r [33] = true then (true, false, Lib.trimSuffix r [33]) else if Lib.hasSuffix r [42] = true then (true, true, Lib.trimSuffix r [42]) else (false, false, r)
theorem suffix_one (a : List UInt8) (c : UInt8) : Lib.hasSuffix (a ++ [c]) [c] = true ∧ Lib.trimSuffix (a ++ [c]) [c] = a := by
  have h : Lib.hasSuffix (a ++ [c]) [c] = true := by
    unfold Lib.hasSuffix
    rw [List.isSuffixOf_iff_suffix]
    exact ⟨a, rfl⟩
  refine ⟨h, ?_⟩
  unfold Lib.trimSuffix
  rw [h, if_pos rfl]
  simp
theorem suffix_one_cases (x : List UInt8) (c : UInt8) : Lib.hasSuffix x [c] = false ∨ ∃ a, x = a ++ [c] := by
  cases h : Lib.hasSuffix x [c] with
  | false => exact .inl rfl
  | true =>
    unfold Lib.hasSuffix at h
    rw [List.isSuffixOf_iff_suffix] at h
    obtain ⟨a, e⟩ := h
    exact .inr ⟨a, e.symm⟩
theorem suffix_not {x : List UInt8} {c : UInt8} (h : noB c x) : Lib.hasSuffix x [c] = false := by
  rcases suffix_one_cases x c with h1 | ⟨a, rfl⟩
  · exact h1
  · exact absurd rfl (h c (by simp))
theorem suffix_other (a : List UInt8) {c d : UInt8} (h : d ≠ c) : Lib.hasSuffix (a ++ [d]) [c] = false := by
  rcases suffix_one_cases (a ++ [d]) c with h1 | ⟨b, e⟩
  · exact h1
  · have := congrArg List.getLast? e
    simp at this
    exact absurd this h
def readFldL (x : List UInt8) : Option Fld := if (Lib.cut x [58]).2.2 = true ∧ wordB (Lib.cut x [58]).1 = true ∧ 0 < typN (signB (Lib.cut x [58]).2.1).2.2 then
  some ⟨bs (Lib.cut x [58]).1, typN (signB (Lib.cut x [58]).2.1).2.2, (signB (Lib.cut x [58]).2.1).1, (signB (Lib.cut x [58]).2.1).2.1⟩ else none
def fldsP : List (List UInt8) → Option (List Fld)
  | [] => some []
  | x :: xs => match readFldL x with
    | none => none
    | some f => match fldsP xs with
      | none => none
      | some r => some (f :: r)
theorem fldsP_cons (x : List UInt8) (xs : List (List UInt8)) : fldsP (x :: xs) = match readFldL x with | none => none | some f => match fldsP xs with | none => none | some r => some (f :: r) := rfl
theorem fldsP_append : ∀ (a b : List (List UInt8)), fldsP (a ++ b) = match fldsP a with | none => none | some u => match fldsP b with | none => none | some v => some (u ++ v)
  | [], b => by
    show fldsP b = match fldsP b with | none => none | some v => some ([] ++ v)
    cases fldsP b <;> rfl
  | x :: a, b => by
    show fldsP (x :: (a ++ b)) = _
    rw [fldsP_cons, fldsP_cons, fldsP_append a b]
    cases readFldL x with
    | none => rfl
    | some p =>
      cases fldsP a with
      | none => rfl
      | some u =>
        cases fldsP b with
        | none => rfl
        | some v => rfl
theorem fldsP_take {xs : List (List UInt8)} {k : Nat} {x : List UInt8} {u : List Fld} (h : fldsP (xs.take k) = some u) (hx : xs[k]? = some x) : (readFldL x = none → fldsP xs = none) ∧ ∀ p, readFldL x = some p → fldsP (xs.take (k + 1)) = some (u ++ [p]) := by
  have e : xs.take (k + 1) = xs.take k ++ [x] := by rw [List.take_add_one, hx]; rfl
  constructor
  · intro hp
    have e2 : xs = xs.take (k + 1) ++ xs.drop (k + 1) := (List.take_append_drop _ _).symm
    rw [e2, fldsP_append, e, fldsP_append, h]
    simp only [fldsP_cons, hp]
  · intro p hp
    rw [e, fldsP_append, h]
    simp only [fldsP_cons, hp]
    rfl
/-- The words of a kind, behind its name: whom it comes of; the words of its fields. -/
def ofsP (ws : List (List UInt8)) : Option (List ByteArray × List (List UInt8)) := match ws with
  | o :: x :: rest => if o = ofW then (if (Lib.split x [44]).all wordB = true then some ((Lib.split x [44]).map bs, rest) else none) else some ([], ws)
  | _ => some ([], ws)
def readKndL (w : List (List UInt8)) : Option Knd := match w with
  | _ :: a :: ws => if wordB a = true then (match ofsP ws with
    | none => none
    | some u => match fldsP u.2 with
      | none => none
      | some fs => some ⟨bs a, u.1, fs⟩) else none
  | _ => none
def readBndL (w : List (List UInt8)) : Option Bnd := match w with
  | [_, a, b, c, d, e] => if wordB a = true ∧ wordB b = true ∧ wordB c = true then (match numL d 2 with
    | none => none
    | some mn => if e = anyW then some ⟨bs a, bs b, bs c, mn, -1⟩ else match numL e 2 with
      | none => none
      | some mx => some ⟨bs a, bs b, bs c, mn, mx⟩) else none
  | _ => none
/-- A line more. -/
def lineS (s : Scm) (x : List UInt8) : Option Scm :=
  if Lib.hasSuffix x [10] = true then
    (if (Lib.split (Lib.trimSuffix x [10]) [32]).head? = some kindW ∧ s.bonds.length = 0 then (readKndL (Lib.split (Lib.trimSuffix x [10]) [32])).map fun k => ⟨s.kinds ++ [k], s.bonds⟩
     else if (Lib.split (Lib.trimSuffix x [10]) [32]).head? = some bondW then (readBndL (Lib.split (Lib.trimSuffix x [10]) [32])).map fun b => ⟨s.kinds, s.bonds ++ [b]⟩
     else none)
  else none
def runS (s : Scm) (n : Nat) : List (List UInt8) → Except Nat Scm
  | [] => .ok s
  | x :: xs => match lineS s x with
    | none => .error n
    | some s' => runS s' (n + 1) xs
def readSE (l : List UInt8) : Int := match runS ⟨[], []⟩ 0 (linesL l) with | .error _ => 2 | .ok s => (scmE s).2
def readSN (l : List UInt8) : Nat := match runS ⟨[], []⟩ 0 (linesL l) with | .error n => n | .ok _ => 0
def readSV (l : List UInt8) : Scm := match runS ⟨[], []⟩ 0 (linesL l) with | .error _ => ⟨[], []⟩ | .ok s => if (scmE s).2 = 0 then s else ⟨[], []⟩
theorem fld_text2 {x : List UInt8} {f : Fld} (h : readFldL x = some f) : fldT f = x := by
  unfold readFldL at h
  rcases cut_cases 58 x with ⟨hc, _⟩ | ⟨a, r, rfl, _, hc⟩
  · rw [hc] at h; simp at h
  · rw [hc] at h
    split at h
    · rename_i hh
      obtain ⟨_, _, ht⟩ := hh
      obtain rfl := Option.some.inj h
      have e := typ_of ht
      unfold fldT
      show (bs a).data.toList ++ [58] ++ typL (typN (signB r).2.2) ++ sgnL ⟨bs a, typN (signB r).2.2, (signB r).1, (signB r).2.1⟩ = _
      rw [e, bs_list]
      have hs : (signB r).2.2 ++ sgnL ⟨bs a, typN (signB r).2.2, (signB r).1, (signB r).2.1⟩ = r := by
        unfold sgnL
        rcases suffix_one_cases r 33 with h1 | ⟨u, rfl⟩
        · rcases suffix_one_cases r 42 with h2 | ⟨u, rfl⟩
          · have e : signB r = (false, false, r) := by unfold signB; rw [h1, h2, if_neg (by simp), if_neg (by simp)]
            rw [e]; simp
          · have e : signB (u ++ [42]) = (true, true, u) := by unfold signB; rw [h1, if_neg (by simp), (suffix_one u 42).1, if_pos rfl, (suffix_one u 42).2]
            rw [e]; simp
        · have e : signB (u ++ [33]) = (true, false, u) := by unfold signB; rw [(suffix_one u 33).1, if_pos rfl, (suffix_one u 33).2]
          rw [e]; simp
      rw [List.append_assoc, hs]; simp
    · cases h
theorem flds_text : ∀ {xs : List (List UInt8)} {r : List Fld}, fldsP xs = some r → r.map fldT = xs
  | [], r, h => by obtain rfl := Option.some.inj h; rfl
  | x :: xs, r, h => by
    rw [fldsP_cons] at h
    cases hp : readFldL x with
    | none => rw [hp] at h; cases h
    | some p =>
      rw [hp] at h
      cases hr : fldsP xs with
      | none => rw [hr] at h; cases h
      | some u =>
        rw [hr] at h
        obtain rfl := Option.some.inj h
        rw [List.map_cons, fld_text2 hp, flds_text hr]
theorem bs_back (xs : List (List UInt8)) : (xs.map bs).map (·.data.toList) = xs := by
  rw [List.map_map]
  conv => rhs; rw [← List.map_id xs]
  exact List.map_congr_left fun x _ => bs_list x
theorem knd_read {l : List UInt8} {k : Knd} (hw : (Lib.split l [32]).head? = some kindW) (h : readKndL (Lib.split l [32]) = some k) : kndT k = l ++ [10] := by
  have hl := split_whole 32 l
  generalize Lib.split l [32] = w at *
  unfold readKndL at h
  split at h
  · rename_i o a ws
    obtain rfl : o = kindW := Option.some.inj hw
    split at h
    · rename_i ha
      cases hu : ofsP ws with
      | none => rw [hu] at h; cases h
      | some u =>
        rw [hu] at h
        have h : (match fldsP u.2 with | none => none | some fs => some (⟨bs a, u.1, fs⟩ : Knd)) = some k := h
        cases hf : fldsP u.2 with
        | none => rw [hf] at h; cases h
        | some fs =>
          rw [hf] at h
          obtain rfl := Option.some.inj h
          have e := flds_text hf
          have e2 : ofsW ⟨bs a, u.1, fs⟩ ++ u.2 = ws := by
            unfold ofsP at hu
            split at hu
            · rename_i o x rest
              split at hu
              · rename_i ho
                split at hu
                · obtain rfl := Option.some.inj hu
                  unfold ofsW
                  have hne : ((Lib.split x [44]).map bs).length ≠ 0 := by
                    rw [List.length_map]
                    intro h0
                    exact split_ne 44 x (List.length_eq_zero_iff.1 h0)
                  show (if ((Lib.split x [44]).map bs).length = 0 then [] else [[111, 102], Lib.join (((Lib.split x [44]).map bs).map (·.data.toList)) [44]]) ++ rest = _
                  rw [if_neg hne, bs_back, split_whole, ho]; rfl
                · cases hu
              · obtain rfl := Option.some.inj hu; rfl
            · obtain rfl := Option.some.inj hu; rfl
          unfold kndT kndWords
          show Lib.join ([[107, 105, 110, 100], (bs a).data.toList] ++ ofsW ⟨bs a, u.1, fs⟩ ++ fs.map fldT) [32] ++ [10] = _
          rw [e, bs_list, List.append_assoc, e2, ← hl]; rfl
    · cases h
  · cases h
theorem bnd_read {l : List UInt8} {b : Bnd} (hw : (Lib.split l [32]).head? = some bondW) (h : readBndL (Lib.split l [32]) = some b) : bndT b = l ++ [10] := by
  have hl := split_whole 32 l
  generalize Lib.split l [32] = w at *
  unfold readBndL at h
  split at h
  · rename_i o a b' c d e
    obtain rfl : o = bondW := Option.some.inj hw
    split at h
    · cases hd : numL d 2 with
      | none => rw [hd] at h; cases h
      | some mn =>
        rw [hd] at h
        have h : (if e = anyW then some (⟨bs a, bs b', bs c, mn, -1⟩ : Bnd) else match numL e 2 with | none => none | some mx => some ⟨bs a, bs b', bs c, mn, mx⟩) = some b := h
        have e1 := (numL_iff.1 hd).1
        split at h
        · rename_i he
          obtain rfl := Option.some.inj h
          unfold bndT bndWords topL
          show Lib.join [[98, 111, 110, 100], (bs a).data.toList, (bs b').data.toList, (bs c).data.toList, Lib.itoa (mn : Int), if (0 : Int) ≤ -1 then Lib.itoa (-1) else [97, 110, 121]] [32] ++ [10] = _
          rw [bs_list, bs_list, bs_list, itoa_nat, ← e1, if_neg (by decide), ← hl, he]; rfl
        · cases hx : numL e 2 with
          | none => rw [hx] at h; cases h
          | some mx =>
            rw [hx] at h
            obtain rfl := Option.some.inj h
            have e2 := (numL_iff.1 hx).1
            unfold bndT bndWords topL
            show Lib.join [[98, 111, 110, 100], (bs a).data.toList, (bs b').data.toList, (bs c).data.toList, Lib.itoa (mn : Int), if (0 : Int) ≤ (mx : Int) then Lib.itoa (mx : Int) else [97, 110, 121]] [32] ++ [10] = _
            rw [bs_list, bs_list, bs_list, itoa_nat, itoa_nat, ← e1, if_pos (by omega), ← e2, ← hl]; rfl
    · cases h
  · cases h
theorem lineS_text {s s' : Scm} {x : List UInt8} (h : lineS s x = some s') : scmT s' = scmT s ++ x := by
  unfold lineS at h
  rcases suffix_cases x with hs | ⟨a, rfl⟩
  · rw [hs] at h; simp at h
  obtain ⟨s1, s2⟩ := suffix_line a
  rw [if_pos s1, s2] at h
  split at h
  · rename_i hw
    obtain ⟨k, hk, rfl⟩ := Option.map_eq_some_iff.1 h
    have ht : s.bonds = [] := List.length_eq_zero_iff.1 hw.2
    have e := knd_read hw.1 hk
    unfold scmT
    show (s.kinds ++ [k]).flatMap kndT ++ s.bonds.flatMap bndT = _
    rw [ht, List.flatMap_append]
    simp only [List.flatMap_cons, List.flatMap_nil, List.append_nil, e]
  · split at h
    · rename_i hw
      obtain ⟨b, hb, rfl⟩ := Option.map_eq_some_iff.1 h
      have e := bnd_read hw hb
      unfold scmT
      show s.kinds.flatMap kndT ++ (s.bonds ++ [b]).flatMap bndT = _
      rw [List.flatMap_append]
      simp only [List.flatMap_cons, List.flatMap_nil, List.append_nil, e, List.append_assoc]
    · cases h
theorem runS_text : ∀ {xs : List (List UInt8)} {s s' : Scm} {n : Nat}, runS s n xs = .ok s' → scmT s' = scmT s ++ xs.flatten
  | [], s, s', n, h => by
    injection h with h
    subst h; simp
  | x :: xs, s, s', n, h => by
    unfold runS at h
    cases hl : lineS s x with
    | none => rw [hl] at h; cases h
    | some s1 =>
      rw [hl] at h
      rw [runS_text h, lineS_text hl, List.flatten_cons, List.append_assoc]
/-- What is read is right, and written as it was. -/
theorem scm_read {l : List UInt8} (h : readSE l = 0) : (scmE (readSV l)).2 = 0 ∧ scmT (readSV l) = l := by
  unfold readSE at h
  unfold readSV
  cases hr : runS ⟨[], []⟩ 0 (linesL l) with
  | error n => rw [hr] at h; cases h
  | ok s =>
    rw [hr] at h
    have h : (scmE s).2 = 0 := h
    show (scmE (if (scmE s).2 = 0 then s else ⟨[], []⟩)).2 = 0 ∧ scmT (if (scmE s).2 = 0 then s else ⟨[], []⟩) = l
    rw [if_pos h]
    refine ⟨h, ?_⟩
    rw [runS_text hr, lines_whole _ l (Nat.le_refl _)]
    rfl
theorem typ_no {c : UInt8} (hc : c.toNat < 97 ∨ 122 < c.toNat) (ty : Int) : noB c (typL ty) := by
  have hl : ∀ l : List UInt8, l.all (fun x => decide (97 ≤ x.toNat ∧ x.toNat ≤ 122)) = true → noB c l := fun l hl x hx e => by
    have := of_decide_eq_true (List.all_eq_true.1 hl x hx)
    subst e; omega
  unfold typL
  split
  · exact hl _ (by decide)
  · split
    · exact hl _ (by decide)
    · split
      · exact hl _ (by decide)
      · exact .nil
theorem fldE_sign (f : Fld) : signB (typL f.ty ++ sgnL f) = (f.must || f.key, f.key, typL f.ty) := by
  have n33 := typ_no (c := 33) (by decide) f.ty
  have n42 := typ_no (c := 42) (by decide) f.ty
  have e1 : sgnL f = if f.key = true then [42] else if f.must = true then [33] else [] := rfl
  cases hk : f.key with
  | true =>
    rw [e1, hk, if_pos rfl]
    unfold signB
    rw [suffix_other _ (by decide), if_neg (by simp), (suffix_one _ 42).1, if_pos rfl, (suffix_one _ 42).2]; simp
  | false =>
    rw [e1, hk, if_neg (by simp)]
    cases hm : f.must with
    | true =>
      rw [if_pos rfl]
      unfold signB
      rw [(suffix_one _ 33).1, if_pos rfl, (suffix_one _ 33).2]; simp
    | false =>
      rw [if_neg (by simp), List.append_nil]
      unfold signB
      rw [suffix_not n33, if_neg (by simp), suffix_not n42, if_neg (by simp)]; simp
theorem fldE_key {q : Option Fld} {f : Fld} (h : fldE q f = 0) : f.key = true → f.must = true := fun hk => by
  unfold fldE at h
  cases hm : f.must with
  | true => rfl
  | false =>
    rw [hk, hm] at h
    split at h
    · split at h
      · simp at h
      · cases h
    · rename_i h1; exact absurd h h1
theorem read_fld {q : Option Fld} {f : Fld} (h : fldE q f = 0) : readFldL (fldT f) = some f := by
  obtain ⟨h1, h2⟩ := fld_parts h
  have e : fldT f = f.name.data.toList ++ 58 :: (typL f.ty ++ sgnL f) := by unfold fldT; simp
  have ht := typ_typ h2
  unfold readFldL
  rw [e, cut_sign (name_no h1 (by decide))]
  show (if true = true ∧ wordB f.name.data.toList = true ∧ 0 < typN (signB (typL f.ty ++ sgnL f)).2.2 then
    some (⟨bs f.name.data.toList, typN (signB (typL f.ty ++ sgnL f)).2.2, (signB (typL f.ty ++ sgnL f)).1, (signB (typL f.ty ++ sgnL f)).2.1⟩ : Fld) else none) = _
  rw [fldE_sign f]
  show (if true = true ∧ wordB f.name.data.toList = true ∧ 0 < typN (typL f.ty) then some (⟨bs f.name.data.toList, typN (typL f.ty), f.must || f.key, f.key⟩ : Fld) else none) = _
  have hk := fldE_key h
  have hmk : (f.must || f.key) = f.must := by cases hm : f.must <;> cases hq : f.key <;> simp_all
  rw [if_pos ⟨rfl, word_name h1, by omega⟩, ht.1, bs_of, hmk]
theorem flds_read : ∀ {r : List Fld}, (∀ f ∈ r, ∃ q, fldE q f = 0) → fldsP (r.map fldT) = some r
  | [], _ => rfl
  | f :: r, h => by
    obtain ⟨q, hq⟩ := h f (by simp)
    rw [List.map_cons, fldsP_cons, read_fld hq, flds_read fun q hq => h q (List.mem_cons_of_mem _ hq)]
theorem fldT_no {c : UInt8} (hc : c.toNat < 33 ∨ 33 < c.toNat ∧ c.toNat < 42 ∨ 42 < c.toNat ∧ c.toNat < 58 ∨ 122 < c.toNat) {q : Option Fld} {f : Fld} (h : fldE q f = 0) : noB c (fldT f) := by
  obtain ⟨h1, _⟩ := fld_parts h
  have hl : ∀ d : UInt8, d.toNat = 33 ∨ d.toNat = 42 ∨ d.toNat = 58 → d ≠ c := fun d hd e => by subst e; omega
  unfold fldT
  refine .append (.append (.append (name_no h1 (by omega)) (.cons (hl _ (.inr (.inr rfl))) .nil)) (typ_no (by omega) _)) ?_
  unfold sgnL
  split
  · exact .cons (hl _ (.inr (.inl rfl))) .nil
  · split
    · exact .cons (hl _ (.inl rfl)) .nil
    · exact .nil
theorem join_no {c d : UInt8} (h : d ≠ c) : ∀ (xs : List (List UInt8)), (∀ x ∈ xs, noB c x) → noB c (Lib.join xs [d])
  | [], _ => by rw [Lib.join_nil]; exact .nil
  | [a], k => by rw [join_one]; exact k a (by simp)
  | a :: y :: m, k => by
    rw [join_two]
    exact .append (k a (by simp)) (.cons h (join_no h (y :: m) fun x hx => k x (List.mem_cons_of_mem _ hx)))
/-- Whom a right kind comes of has a right name. -/
theorem ofs_names {l : List Knd} (h : Right l) {k : Knd} (hk : k ∈ l) : ∀ s ∈ k.ofs, nameE s = 0 := fun s hs => by
  obtain ⟨i, hi⟩ := List.mem_iff_getElem?.1 hk
  have ho := h.one i k hi
  have h0 : 0 ≤ kFind (l.take i) s := ofsE_zero ho.ofs s hs
  obtain ⟨j, d, _, h2, h3, _⟩ := kFind_pos h0
  have hj : j < i := by have := (List.getElem?_eq_some_iff.1 h2).1; rw [List.length_take] at this; omega
  rw [List.getElem?_take, if_pos hj] at h2
  have hnm := (h.one j d h2).nm
  rw [h3] at hnm
  exact hnm
theorem ofsP_of (x : List UInt8) (rest : List (List UInt8)) : ofsP (ofW :: x :: rest) = if (Lib.split x [44]).all wordB = true then some ((Lib.split x [44]).map bs, rest) else none := by
  show (if ofW = ofW then (if (Lib.split x [44]).all wordB = true then some ((Lib.split x [44]).map bs, rest) else none) else some ([], ofW :: x :: rest)) = _
  rw [if_pos rfl]
theorem ofs_read {l : List Knd} (h : Right l) {k : Knd} (hk : k ∈ l) : ofsP (ofsW k ++ k.fields.map fldT) = some (k.ofs, k.fields.map fldT) := by
  obtain ⟨i, hi⟩ := List.mem_iff_getElem?.1 hk
  have ho := h.one i k hi
  have hn := ofs_names h hk
  unfold ofsW
  split
  · rename_i h0
    have e0 : k.ofs = [] := List.length_eq_zero_iff.1 h0
    rw [List.nil_append, e0]
    cases hf : k.fields with
    | nil => rfl
    | cons f fs =>
      cases fs with
      | nil => rfl
      | cons g gs =>
        have hne : fldT f ≠ ofW := fun e => by
          have := congrArg (58 ∈ ·) e
          unfold fldT ofW at this
          simp at this
        show (if fldT f = ofW then _ else _) = _
        rw [if_neg hne]
  · rename_i h0
    refine (ofsP_of _ _).trans ?_
    have hne : k.ofs.map (·.data.toList) ≠ [] := fun e => h0 (by have := congrArg List.length e; simpa using this)
    have hw : ∀ x ∈ k.ofs.map (·.data.toList), nameE (bs x) = 0 := fun x hx => by
      obtain ⟨s, hs, rfl⟩ := List.mem_map.1 hx
      rw [bs_of]; exact hn s hs
    rw [split_join 44 _ hne fun x hx => by have := name_no (hw x hx) (c := 44) (by decide); rwa [bs_list] at this]
    rw [if_pos (List.all_eq_true.2 fun x hx => by have := word_name (hw x hx); rwa [bs_list] at this)]
    have e : (k.ofs.map (·.data.toList)).map bs = k.ofs := by
      rw [List.map_map]
      conv => rhs; rw [← List.map_id k.ofs]
      exact List.map_congr_left fun x _ => bs_of x
    rw [e]; rfl
theorem words_no {l : List Knd} (h : Right l) {k : Knd} (hk : k ∈ l) : ∀ x ∈ kndWords k, noB 32 x := by
  obtain ⟨i, hi⟩ := List.mem_iff_getElem?.1 hk
  have ho := h.one i k hi
  have hn := ofs_names h hk
  intro x hx
  unfold kndWords at hx
  rcases List.mem_append.1 hx with hx | hx
  · rcases List.mem_append.1 hx with hx | hx
    · rcases List.mem_cons.1 hx with rfl | hx
      · exact no_lit (by decide)
      · rcases List.mem_cons.1 hx with rfl | hx
        · exact name_no ho.nm (by decide)
        · cases hx
    · unfold ofsW at hx
      split at hx
      · cases hx
      · rcases List.mem_cons.1 hx with rfl | hx
        · exact no_lit (by decide)
        · rcases List.mem_cons.1 hx with rfl | hx
          · refine join_no (by decide) _ fun y hy => ?_
            obtain ⟨s, hs, rfl⟩ := List.mem_map.1 hy
            exact name_no (hn s hs) (by decide)
          · cases hx
  · obtain ⟨f, hf, rfl⟩ := List.mem_map.1 hx
    obtain ⟨q, hq⟩ := flds_ok ho.fls f hf
    exact fldT_no (.inl (by decide)) hq
theorem read_knd {l : List Knd} (h : Right l) {k : Knd} (hk : k ∈ l) : readKndL (kndWords k) = some k := by
  obtain ⟨i, hi⟩ := List.mem_iff_getElem?.1 hk
  have ho := h.one i k hi
  unfold readKndL kndWords
  show (if wordB k.name.data.toList = true then (match ofsP (ofsW k ++ k.fields.map fldT) with | none => none | some u => match fldsP u.2 with | none => none | some fs => some (⟨bs k.name.data.toList, u.1, fs⟩ : Knd)) else none) = _
  rw [if_pos (word_name ho.nm), ofs_read h hk]
  show (match fldsP (k.fields.map fldT) with | none => none | some fs => some (⟨bs k.name.data.toList, k.ofs, fs⟩ : Knd)) = _
  rw [flds_read (flds_ok ho.fls), bs_of]
theorem num2 {n : Int} (h0 : 0 ≤ n) (h : n ≤ 20) : ∃ u : Nat, n = u ∧ numL (Lib.itoa n) 2 = some u := by
  refine ⟨n.toNat, by omega, ?_⟩
  obtain ⟨u, hu⟩ : ∃ u : Nat, n = u := ⟨n.toNat, by omega⟩
  subst hu
  rw [itoa_nat]
  refine numL_iff.2 ⟨by simp, ?_⟩
  rw [Lib.decDigits_length]
  by_cases h0 : u < 10
  · rw [Lib.nDigits_small h0]; omega
  · rw [Lib.nDigits_unique 1 u (by omega) (by omega)]; omega
theorem read_bnd {s : Scm} (h : ScmOk s) {b : Bnd} (hb : b ∈ s.bonds) : readBndL (bndWords b) = some b ∧ ∀ x ∈ bndWords b, noB 32 x := by
  obtain ⟨i, hi⟩ := List.mem_iff_getElem?.1 hb
  have ho := h.b i b hi
  have hs := found_name h.r ho.src
  have hd := found_name h.r ho.dst
  have hr := ho.rng
  unfold rngB at hr
  obtain ⟨u, hu, hn⟩ := num2 (n := b.mn) (by omega) (by omega)
  constructor
  · unfold readBndL bndWords
    show (if wordB b.name.data.toList = true ∧ wordB b.src.data.toList = true ∧ wordB b.dst.data.toList = true then (match numL (Lib.itoa b.mn) 2 with
      | none => none
      | some mn => if topL b = anyW then some (⟨bs b.name.data.toList, bs b.src.data.toList, bs b.dst.data.toList, mn, -1⟩ : Bnd) else match numL (topL b) 2 with
        | none => none
        | some mx => some ⟨bs b.name.data.toList, bs b.src.data.toList, bs b.dst.data.toList, mn, mx⟩) else none) = _
    rw [if_pos ⟨word_name ho.nm, word_name hs, word_name hd⟩, hn]
    unfold topL
    by_cases hm : 0 ≤ b.mx
    · obtain ⟨v, hv, hn2⟩ := num2 (n := b.mx) (by omega) (by omega)
      rw [if_pos hm]
      have hne : Lib.itoa b.mx ≠ anyW := fun e => by
        rw [e] at hn2
        have h0 : numL anyW 2 = none := by decide
        rw [h0] at hn2; cases hn2
      show (if Lib.itoa b.mx = anyW then _ else match numL (Lib.itoa b.mx) 2 with | none => none | some mx => some (⟨bs b.name.data.toList, bs b.src.data.toList, bs b.dst.data.toList, (u : Int), (mx : Int)⟩ : Bnd)) = _
      rw [if_neg hne, hn2, bs_of, bs_of, bs_of]
      show some (⟨b.name, b.src, b.dst, (u : Int), (v : Int)⟩ : Bnd) = _
      rw [← hu, ← hv]
    · rw [if_neg hm]
      show (if anyW = anyW then some (⟨bs b.name.data.toList, bs b.src.data.toList, bs b.dst.data.toList, (u : Int), -1⟩ : Bnd) else _) = _
      rw [if_pos rfl, bs_of, bs_of, bs_of, ← hu]
      have e : b.mx = -1 := by omega
      rw [← e]
  · intro x hx
    unfold bndWords at hx
    simp only [List.mem_cons, List.not_mem_nil, or_false] at hx
    rcases hx with rfl | rfl | rfl | rfl | rfl | rfl
    · exact no_lit (by decide)
    · exact name_no ho.nm (by decide)
    · exact name_no hs (by decide)
    · exact name_no hd (by decide)
    · exact itoa_no (by decide) _
    · unfold topL
      split
      · exact itoa_no (by decide) _
      · exact no_lit (by decide)
theorem line_kndT {l : List Knd} (h : Right l) {k : Knd} (hk : k ∈ l) {s : Scm} (ht : s.bonds = []) : ∃ a, kndT k = a ++ [10] ∧ noB 10 a ∧ lineS s (a ++ [10]) = some ⟨s.kinds ++ [k], s.bonds⟩ := by
  refine ⟨Lib.join (kndWords k) [32], rfl, flat_join _ _ (fun x hx => ((knd_words h hk).1 x hx).1) (flat_lit (by decide)), ?_⟩
  obtain ⟨s1, s2⟩ := suffix_line (Lib.join (kndWords k) [32])
  unfold lineS
  rw [if_pos s1, s2, split_join 32 (kndWords k) (by unfold kndWords; simp) (words_no h hk), if_pos ⟨rfl, by rw [ht]; rfl⟩, read_knd h hk]; rfl
theorem line_bndT {c : Scm} (h : ScmOk c) {b : Bnd} (hb : b ∈ c.bonds) (s : Scm) : ∃ a, bndT b = a ++ [10] ∧ noB 10 a ∧ lineS s (a ++ [10]) = some ⟨s.kinds, s.bonds ++ [b]⟩ := by
  obtain ⟨r1, r2⟩ := read_bnd h hb
  refine ⟨Lib.join (bndWords b) [32], rfl, flat_join _ _ (fun x hx => (bnd_words h hb x hx).1) (flat_lit (by decide)), ?_⟩
  obtain ⟨s1, s2⟩ := suffix_line (Lib.join (bndWords b) [32])
  unfold lineS
  rw [if_pos s1, s2, split_join 32 (bndWords b) (by unfold bndWords; simp) r2, if_neg (fun e => by have e1 := Option.some.inj e.1; exact absurd e1 (by decide)), if_pos (by rfl), r1]; rfl
theorem run_bnds {c : Scm} (h : ScmOk c) : ∀ (l : List Bnd) (s : Scm) (n : Nat), (∀ b ∈ l, b ∈ c.bonds) → runS s n (linesL (l.flatMap bndT)) = .ok ⟨s.kinds, s.bonds ++ l⟩
  | [], s, n, _ => by simp [lines_nil, runS]
  | b :: l, s, n, hb => by
    obtain ⟨a, e, ha, hl⟩ := line_bndT h (hb b (by simp)) s
    rw [List.flatMap_cons, e, List.append_assoc]
    show runS s n (linesL (a ++ 10 :: l.flatMap bndT)) = _
    rw [lines_sign ha]
    unfold runS
    rw [hl]
    show runS ⟨s.kinds, s.bonds ++ [b]⟩ (n + 1) _ = _
    rw [run_bnds h l _ _ fun x hx => hb x (List.mem_cons_of_mem _ hx)]
    simp
theorem run_knds {c : Scm} (h : ScmOk c) : ∀ (l : List Knd) (m : List Bnd) (s : Scm) (n : Nat), s.bonds = [] → (∀ k ∈ l, k ∈ c.kinds) → (∀ b ∈ m, b ∈ c.bonds) → runS s n (linesL (l.flatMap kndT ++ m.flatMap bndT)) = .ok ⟨s.kinds ++ l, s.bonds ++ m⟩
  | [], m, s, n, _, _, hb => by
    show runS s n (linesL (m.flatMap bndT)) = _
    rw [run_bnds h m s n hb]; simp
  | k :: l, m, s, n, hs, hk, hb => by
    obtain ⟨a, e, ha, hl⟩ := line_kndT h.r (hk k (by simp)) hs
    rw [List.flatMap_cons, e, List.append_assoc, List.append_assoc]
    show runS s n (linesL (a ++ 10 :: (l.flatMap kndT ++ m.flatMap bndT))) = _
    rw [lines_sign ha]
    unfold runS
    rw [hl]
    show runS ⟨s.kinds ++ [k], s.bonds⟩ (n + 1) _ = _
    rw [run_knds h l m ⟨s.kinds ++ [k], s.bonds⟩ (n + 1) hs (fun y hy => hk y (List.mem_cons_of_mem _ hy)) hb]
    simp
/-- What is written is read as it was. -/
theorem read_scm {s : Scm} (h : (scmE s).2 = 0) : readSE (scmT s) = 0 ∧ readSV (scmT s) = s ∧ readSN (scmT s) = 0 := by
  have hr : runS ⟨[], []⟩ 0 (linesL (scmT s)) = .ok s := by
    unfold scmT
    rw [run_knds (scmE_zero h) s.kinds s.bonds ⟨[], []⟩ 0 rfl (fun _ h => h) fun _ h => h]
    rfl
  unfold readSE readSV readSN
  rw [hr]
  refine ⟨h, ?_, rfl⟩
  show (if (scmE s).2 = 0 then s else ⟨[], []⟩) = s
  rw [if_pos h]
end Go.Proofs.YtdmpkgiijddcdaaGreatDoor
