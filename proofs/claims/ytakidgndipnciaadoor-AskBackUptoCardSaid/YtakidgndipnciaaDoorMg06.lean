/- Parts: VtG, AsP. -/
import Derived.Test.YtakidgndipnciaaDoorMg05
/- Plain: lines; a text as a graph. No condition. -/
namespace Go.Proofs.YtakidgndipnciaaDoor
open Go

def nodeW : List UInt8 := [110, 111, 100, 101]
def tieW : List UInt8 := [116, 105, 101]
/-- A node, a tie of what stands behind its word. -/
def readNodL (l : List UInt8) : Option Nod := match Lib.splitN l [32] 3 with
  | [a, b, c] => if b = [] then none else match numL a 4 with
    | none => none
    | some n => if readRE c = 0 then some ⟨n, bs b, readRV c⟩ else none
  | _ => none
def readTieL (l : List UInt8) : Option Tie := match Lib.split l [32] with
  | [a, b, c] => if a = [] then none else match numL b 4, numL c 4 with
    | some x, some y => some ⟨bs a, x, y⟩
    | _, _ => none
  | _ => none
/-- A line more. -/
def lineT (g : Grf) (x : List UInt8) : Option Grf :=
  if Lib.hasSuffix x [10] = true then
    (if (Lib.cut (Lib.trimSuffix x [10]) [32]).1 = nodeW ∧ g.ties.length = 0 then (readNodL (Lib.cut (Lib.trimSuffix x [10]) [32]).2.1).map fun n => ⟨g.nodes ++ [n], g.ties⟩
     else if (Lib.cut (Lib.trimSuffix x [10]) [32]).1 = tieW then (readTieL (Lib.cut (Lib.trimSuffix x [10]) [32]).2.1).map fun t => ⟨g.nodes, g.ties ++ [t]⟩
     else none)
  else none
/-- Lines, one by one: the graph, or the number of the line that is wrong. -/
def runT (g : Grf) (n : Nat) : List (List UInt8) → Except Nat Grf
  | [] => .ok g
  | x :: xs => match lineT g x with
    | none => .error n
    | some g' => runT g' (n + 1) xs
theorem name_ne {s : ByteArray} (h : nameE s = 0) : s.data.toList ≠ [] := fun e => by
  unfold nameE at h
  split at h
  · cases h
  · rename_i hh
    exact hh ((empty_iff s).2 (by rw [← bs_of s, e]; rfl))

structure Tst where
  name : ByteArray
  how : Int
  v : Val
  deriving DecidableEq
structure Stp where
  bond : ByteArray
  back : Bool
  kind : ByteArray
  tests : List Tst
  deriving DecidableEq
def zVal : Val := ⟨0, 0, .empty⟩
/-- What is wrong with a test, a step, a path by itself. -/
def tstE (t : Tst) : Int := if nameE t.name ≠ 0 then nameE t.name else if t.how < 1 ∨ 4 < t.how then 1 else if t.how = 4 then (if t.v = zVal then 0 else 3) else valE t.v
def stpE (first : Bool) (x : Stp) : Int :=
  if nameE x.kind ≠ 0 then nameE x.kind
  else if first = true then (if x.bond ≠ .empty ∨ x.back = true then 3 else if 8 < x.tests.length then 4 else firstE tstE x.tests)
  else if nameE x.bond ≠ 0 then nameE x.bond else if 8 < x.tests.length then 4 else firstE tstE x.tests
def askE (l : List Stp) : Int := if l.length = 0 then 5 else if 6 < l.length then 4 else match l with | [] => 5 | x :: r => if stpE true x ≠ 0 then stpE true x else firstE (stpE false) r
/-! ### As text -/
def signT (h : Int) : List UInt8 := if h = 1 then [61] else if h = 2 then [33] else if h = 3 then [60] else []
def tstT (t : Tst) : List UInt8 := t.name.data.toList ++ (signT t.how ++ (if t.how = 4 then [] else showL t.v))
def tstsT (l : List Tst) : List UInt8 := if l = [] then [] else 91 :: (Lib.join (l.map tstT) [44] ++ [93])
def linkT (x : Stp) : List UInt8 := if x.back = true then [32, 60, 45] ++ x.bond.data.toList ++ [45, 32] else [32, 45] ++ x.bond.data.toList ++ [45, 62, 32]
def stpT (first : Bool) (x : Stp) : List UInt8 := (if first = true then [] else linkT x) ++ (x.kind.data.toList ++ tstsT x.tests)
def askT (l : List Stp) : List UInt8 := match l with | [] => [] | x :: r => stpT true x ++ r.flatMap (stpT false)
/-! ### Read -/
def letB (c : UInt8) : Bool := decide (97 ≤ c.toNat ∧ c.toNat ≤ 122)
/-- A byte that must be there; else how many bytes are left. -/
def pNeed (c : UInt8) (l : List UInt8) : Except Nat (List UInt8) := match l with | [] => .error 0 | x :: r => if x = c then .ok r else .error l.length
def pName (l : List UInt8) : Except Nat (ByteArray × List UInt8) := if l.takeWhile letB = [] then .error l.length else .ok (bs (l.takeWhile letB), l.dropWhile letB)
def valF : Bool → List UInt8 → List UInt8 × List UInt8
  | _, [] => ([], [])
  | q, x :: r => if q = false ∧ (x = 44 ∨ x = 93) then ([], x :: r) else (x :: (valF (if x = 39 then !q else q) r).1, (valF (if x = 39 then !q else q) r).2)
def pVal (l : List UInt8) : Except Nat (Val × List UInt8) := if readE (valF false l).1 = 0 then .ok (readV (valF false l).1, (valF false l).2) else .error l.length
def pHow (n : ByteArray) (h : Int) (l : List UInt8) : Except Nat (Tst × List UInt8) := match pVal l with | .error e => .error e | .ok (v, r) => .ok (⟨n, h, v⟩, r)
def pSign (n : ByteArray) (r : List UInt8) : Except Nat (Tst × List UInt8) := match r with
  | [] => .ok (⟨n, 4, zVal⟩, [])
  | c :: r' => if c = 61 then pHow n 1 r' else if c = 33 then pHow n 2 r' else if c = 60 then pHow n 3 r' else .ok (⟨n, 4, zVal⟩, c :: r')
def pTest (l : List UInt8) : Except Nat (Tst × List UInt8) := match pName l with | .error e => .error e | .ok (n, r) => pSign n r
/-- Tests, up to what ends them; m: no more than so many. -/
def pTs (acc : List Tst) : Nat → List UInt8 → Except Nat (List Tst × List UInt8)
  | 0, l => .error l.length
  | m + 1, l => match pTest l with
    | .error e => .error e
    | .ok (t, r) => match r with
      | [] => .error 0
      | c :: r' => if c = 44 then pTs (acc ++ [t]) m r' else if c = 93 then .ok (acc ++ [t], r') else .error r.length
def pKind (b : ByteArray) (k : Bool) (l : List UInt8) : Except Nat (Stp × List UInt8) := match pName l with
  | .error e => .error e
  | .ok (n, r) => match r with
    | [] => .ok (⟨b, k, n, []⟩, [])
    | c :: r' => if c = 91 then (match pTs [] (r'.length + 1) r' with | .error e => .error e | .ok (ts, r2) => .ok (⟨b, k, n, ts⟩, r2)) else .ok (⟨b, k, n, []⟩, c :: r')
/-- Behind the sign: the bond, its line's end, and the kind. -/
def pBond (k : Bool) (l : List UInt8) : Except Nat (Stp × List UInt8) := match pName l with
  | .error e => .error e
  | .ok (b, r) => match pNeed 45 r with
    | .error e => .error e
    | .ok r1 => match (if k = true then .ok r1 else pNeed 62 r1) with
      | .error e => .error e
      | .ok r2 => match pNeed 32 r2 with
        | .error e => .error e
        | .ok r3 => pKind b k r3
def pStep (l : List UInt8) : Except Nat (Stp × List UInt8) := match pNeed 32 l with
  | .error e => .error e
  | .ok r => match r with
    | [] => .error 0
    | c :: r1 => if c = 60 then (match pNeed 45 r1 with | .error e => .error e | .ok r2 => pBond true r2) else if c = 45 then pBond false r1 else .error r.length
def pAsk (acc : List Stp) : Nat → List UInt8 → Except Nat (List Stp)
  | 0, l => .error l.length
  | m + 1, l => if l = [] then .ok acc else match pStep l with
    | .error e => .error e
    | .ok (x, r) => pAsk (acc ++ [x]) m r
def askR (l : List UInt8) : Except Nat (List Stp) := match pKind .empty false l with
  | .error e => .error e
  | .ok (x, r) => pAsk [x] (r.length + 1) r
def readAE (l : List UInt8) : Int := match askR l with | .error _ => 2 | .ok p => askE p
def readAN (l : List UInt8) : Nat := match askR l with | .error e => l.length - e | .ok _ => 0
def readAV (l : List UInt8) : List Stp := match askR l with | .error _ => [] | .ok p => if askE p = 0 then p else []
/-! ### What is read is shown as it was -/
theorem letB_span (l : List UInt8) : l = l.takeWhile letB ++ l.dropWhile letB := (List.takeWhile_append_dropWhile).symm
theorem pName_ok {l r : List UInt8} {n : ByteArray} (h : pName l = .ok (n, r)) : l = n.data.toList ++ r := by
  unfold pName at h
  split at h
  · cases h
  · injection h with h
    injection h with h1 h2
    rw [← h1, ← h2, bs_list]
    exact letB_span l
theorem pNeed_ok {c : UInt8} {l r : List UInt8} (h : pNeed c l = .ok r) : l = c :: r := by
  unfold pNeed at h
  split at h
  · cases h
  · split at h
    · rename_i x r' hx
      injection h with h
      rw [hx, h]
    · cases h
theorem valF_whole : ∀ (l : List UInt8) (q : Bool), l = (valF q l).1 ++ (valF q l).2
  | [], _ => rfl
  | x :: r, q => by
    unfold valF
    split
    · rfl
    · show x :: r = x :: (_ ++ _)
      rw [← valF_whole r]
theorem pVal_ok {l r : List UInt8} {v : Val} (h : pVal l = .ok (v, r)) : l = showL v ++ r ∧ valE v = 0 := by
  unfold pVal at h
  split at h
  · rename_i h0
    injection h with h
    injection h with h1 h2
    obtain ⟨e1, e2⟩ := show_read h0
    rw [← h1, ← h2, e2]
    exact ⟨valF_whole l false, e1⟩
  · cases h
theorem pHow_ok {n : ByteArray} {k : Int} {l r : List UInt8} {t : Tst} (_hk : k ≠ 4) (h : pHow n k l = .ok (t, r)) : t.name = n ∧ t.how = k ∧ l = showL t.v ++ r := by
  unfold pHow at h
  split at h
  · cases h
  · rename_i v r' hv
    injection h with h
    injection h with h1 h2
    obtain ⟨e, _⟩ := pVal_ok hv
    subst h1
    subst h2
    exact ⟨rfl, rfl, e⟩
theorem pSign_ok {n : ByteArray} {l r : List UInt8} {t : Tst} (h : pSign n l = .ok (t, r)) : n.data.toList ++ l = tstT t ++ r := by
  unfold pSign at h
  split at h
  · injection h with h
    injection h with h1 h2
    subst h1; subst h2
    simp [tstT, signT]
  · rename_i c r'
    have go : ∀ (k : Int), k ≠ 4 → signT k = [c] → pHow n k r' = .ok (t, r) → n.data.toList ++ c :: r' = tstT t ++ r := fun k hk hs hp => by
      obtain ⟨e1, e2, e3⟩ := pHow_ok hk hp
      unfold tstT
      rw [e1, e2, if_neg hk, hs, e3]
      simp
    split at h
    · rename_i hc; subst hc; exact go 1 (by decide) (by decide) h
    · split at h
      · rename_i hc; subst hc; exact go 2 (by decide) (by decide) h
      · split at h
        · rename_i hc; subst hc; exact go 3 (by decide) (by decide) h
        · injection h with h
          injection h with h1 h2
          subst h1; subst h2
          simp [tstT, signT]
theorem pTest_ok {l r : List UInt8} {t : Tst} (h : pTest l = .ok (t, r)) : l = tstT t ++ r := by
  unfold pTest at h
  split at h
  · cases h
  · rename_i n r' hn
    rw [pName_ok hn, pSign_ok h]
theorem join_snoc2 (l : List (List UInt8)) (x : List UInt8) (c : UInt8) (h : l ≠ []) : Lib.join (l ++ [x]) [c] = Lib.join l [c] ++ c :: x := by
  cases l with
  | nil => exact absurd rfl h
  | cons a r =>
    have : ∀ (m : List (List UInt8)) (a : List UInt8), Lib.join (a :: (m ++ [x])) [c] = Lib.join (a :: m) [c] ++ c :: x := by
      intro m
      induction m with
      | nil => intro a; show Lib.join (a :: [x]) [c] = _; rw [join_two, join_one, join_one]
      | cons y m ih => intro a; show Lib.join (a :: y :: (m ++ [x])) [c] = _; rw [join_two, ih, join_two, List.append_assoc]; rfl
    exact this r a
/-- Tests ahead of the next one. -/
def tsH (l : List Tst) : List UInt8 := if l = [] then [] else Lib.join (l.map tstT) [44] ++ [44]
theorem tsH_step (acc : List Tst) (t : Tst) : Lib.join ((acc ++ [t]).map tstT) [44] = tsH acc ++ tstT t := by
  unfold tsH
  rw [List.map_append]
  show Lib.join (acc.map tstT ++ [tstT t]) [44] = _
  by_cases h : acc = []
  · subst h; rw [if_pos rfl]; exact join_one _ _
  · rw [if_neg h, join_snoc2 _ _ _ (fun e => h (List.map_eq_nil_iff.1 e)), List.append_assoc]; rfl
theorem pTs_ok : ∀ (m : Nat) (acc : List Tst) (l r : List UInt8) (ts : List Tst), pTs acc m l = .ok (ts, r) → ts ≠ [] ∧ tsH acc ++ l = Lib.join (ts.map tstT) [44] ++ 93 :: r
  | 0, _, _, _, _, h => by cases h
  | m + 1, acc, l, r, ts, h => by
    unfold pTs at h
    split at h
    · cases h
    · rename_i t r1 ht
      have e := pTest_ok ht
      split at h
      · cases h
      · rename_i c r'
        split at h
        · rename_i hc
          subst hc
          obtain ⟨e0, e1⟩ := pTs_ok m _ _ _ _ h
          refine ⟨e0, ?_⟩
          rw [← e1, e]
          have : tsH (acc ++ [t]) = tsH acc ++ tstT t ++ [44] := by
            rw [← tsH_step]; unfold tsH; rw [if_neg (by simp)]
          rw [this]; simp
        · split at h
          · rename_i hc
            subst hc
            injection h with h
            injection h with h1 h2
            subst h1; subst h2
            refine ⟨by simp, ?_⟩
            rw [tsH_step, e]; simp
          · cases h
theorem pKind_ok {b : ByteArray} {k : Bool} {l r : List UInt8} {x : Stp} (h : pKind b k l = .ok (x, r)) : x.bond = b ∧ x.back = k ∧ l = x.kind.data.toList ++ tstsT x.tests ++ r := by
  unfold pKind at h
  split at h
  · cases h
  · rename_i n r1 hn
    rw [pName_ok hn]
    split at h
    · injection h with h
      injection h with h1 h2
      subst h1; subst h2
      exact ⟨rfl, rfl, by simp [tstsT]⟩
    · rename_i c r'
      split at h
      · rename_i hc
        subst hc
        split at h
        · cases h
        · rename_i ts r2 hts
          injection h with h
          injection h with h1 h2
          subst h1; subst h2
          obtain ⟨e0, e1⟩ := pTs_ok _ _ _ _ _ hts
          refine ⟨rfl, rfl, ?_⟩
          have : tsH [] = [] := rfl
          rw [this, List.nil_append] at e1
          rw [e1]
          unfold tstsT
          rw [if_neg e0]; simp
      · injection h with h
        injection h with h1 h2
        subst h1; subst h2
        exact ⟨rfl, rfl, by simp [tstsT]⟩
theorem pBond_ok {k : Bool} {l r : List UInt8} {x : Stp} (h : pBond k l = .ok (x, r)) : x.back = k ∧ l = x.bond.data.toList ++ (if k = true then [45, 32] else [45, 62, 32]) ++ x.kind.data.toList ++ tstsT x.tests ++ r := by
  unfold pBond at h
  split at h
  · cases h
  · rename_i b r1 hn
    rw [pName_ok hn]
    split at h
    · cases h
    · rename_i r2 h2
      rw [pNeed_ok h2]
      split at h
      · cases h
      · rename_i r3 h3
        split at h
        · cases h
        · rename_i r4 h4
          obtain ⟨e1, e2, e3⟩ := pKind_ok h
          refine ⟨e2, ?_⟩
          rw [e1]
          cases k with
          | true =>
            rw [if_pos rfl] at h3 ⊢
            injection h3 with h3
            rw [h3, pNeed_ok h4, e3]; simp
          | false =>
            rw [if_neg (by decide)] at h3 ⊢
            rw [pNeed_ok h3, pNeed_ok h4, e3]; simp
theorem pStep_ok {l r : List UInt8} {x : Stp} (h : pStep l = .ok (x, r)) : l = stpT false x ++ r := by
  unfold pStep at h
  split at h
  · cases h
  · rename_i r1 h1
    rw [pNeed_ok h1]
    split at h
    · cases h
    · rename_i c r2
      split at h
      · rename_i hc
        subst hc
        split at h
        · cases h
        · rename_i r3 h3
          obtain ⟨e1, e2⟩ := pBond_ok h
          rw [pNeed_ok h3, e2]
          simp [stpT, linkT, e1]
      · split at h
        · rename_i hc
          subst hc
          obtain ⟨e1, e2⟩ := pBond_ok h
          rw [e2]
          simp [stpT, linkT, e1]
        · cases h
theorem askT_snoc {acc : List Stp} (h : acc ≠ []) (x : Stp) : askT (acc ++ [x]) = askT acc ++ stpT false x := by
  cases acc with
  | nil => exact absurd rfl h
  | cons a r => show stpT true a ++ (r ++ [x]).flatMap (stpT false) = _; rw [List.flatMap_append]; simp [askT]
theorem pAsk_ok : ∀ (m : Nat) (acc : List Stp) (l : List UInt8) (p : List Stp), acc ≠ [] → pAsk acc m l = .ok p → askT acc ++ l = askT p
  | 0, _, _, _, _, h => by cases h
  | m + 1, acc, l, p, h0, h => by
    unfold pAsk at h
    split at h
    · rename_i hl
      injection h with h
      rw [hl, h, List.append_nil]
    · split at h
      · cases h
      · rename_i x r hx
        rw [pStep_ok hx, ← pAsk_ok m _ _ _ (by simp) h, askT_snoc h0, List.append_assoc]
theorem ask_read {l : List UInt8} {p : List Stp} (h : askR l = .ok p) : askT p = l := by
  unfold askR at h
  split at h
  · cases h
  · rename_i x r hx
    rw [← pAsk_ok _ _ _ _ (by simp) h]
    obtain ⟨e1, e2, e3⟩ := pKind_ok hx
    rw [e3]
    show stpT true x ++ [] ++ r = _
    unfold stpT
    rw [if_pos rfl]; simp
end Go.Proofs.YtakidgndipnciaaDoor
