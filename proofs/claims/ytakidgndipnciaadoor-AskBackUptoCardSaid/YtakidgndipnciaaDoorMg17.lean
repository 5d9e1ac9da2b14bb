/- Parts: RxP. -/
import Derived.Test.YtakidgndipnciaaDoorMg16
/- Plain: how a step of a path is read, call by call. No condition. -/
namespace Go.Proofs.YtakidgndipnciaaDoor
open Go Go.RowKit

/-- A step, the first one or not. -/
def pFst (first : Bool) (l : List UInt8) : Except Nat (Stp × List UInt8) := if first = true then pKind .empty false l else pStep l
theorem step_e1 {l : List UInt8} {n : Nat} (h : pNeed 32 l = .error n) : pStep l = .error n := by unfold pStep; rw [h]
def signs2 : ByteArray := ⟨#[60, 45]⟩
theorem signs2_in (x : UInt8) : x ∈ signs2.data.toList ↔ (x = 60 ∨ x = 45) := by show x ∈ [60, 45] ↔ _; simp
theorem step_e2 {l r : List UInt8} {n : Nat} (h : pNeed 32 l = .ok r) (h2 : pAny signs2.data.toList r = .error n) : pStep l = .error n := by
  unfold pStep
  rw [h]
  obtain ⟨e1, e2⟩ := any_miss h2
  subst e2
  cases r with
  | nil => rfl
  | cons c r1 =>
    have hc : ¬ (c = 60 ∨ c = 45) := fun hc => by
      rw [pNext_hit ((signs2_in c).2 hc)] at e1
      injection e1 with e1 e2
      have := congrArg List.length e2
      simp at this
    show (if c = 60 then _ else if c = 45 then _ else _) = _
    rw [if_neg (fun e => hc (.inl e)), if_neg (fun e => hc (.inr e))]
/-- Behind the sign '<'. -/
def pDash (l : List UInt8) : Except Nat (Stp × List UInt8) := match pNeed 45 l with | .error e => .error e | .ok r2 => pBond true r2
theorem dash_e {l : List UInt8} {n : Nat} (h : pNeed 45 l = .error n) : pDash l = .error n := by unfold pDash; rw [h]
theorem dash_ok {l r : List UInt8} (h : pNeed 45 l = .ok r) : pDash l = pBond true r := by unfold pDash; rw [h]
theorem step_ok {l r : List UInt8} {c : UInt8} (h : pNeed 32 l = .ok (c :: r)) (hc : c = 60 ∨ c = 45) : pStep l = if decide (c = 60) = true then pDash r else pBond false r := by
  unfold pStep pDash
  rw [h]
  show (if c = 60 then _ else if c = 45 then _ else _) = _
  rcases hc with rfl | rfl
  · rw [if_pos rfl, if_pos (by decide)]; cases pNeed 45 r <;> rfl
  · rw [if_neg (by decide), if_pos rfl, if_neg (by decide)]
theorem bond_e1 {k : Bool} {l : List UInt8} {n : Nat} (h : pName l = .error n) : pBond k l = .error n := by unfold pBond; rw [h]
theorem bond_e2 {k : Bool} {l r : List UInt8} {b : ByteArray} {n : Nat} (h : pName l = .ok (b, r)) (h2 : pNeed 45 r = .error n) : pBond k l = .error n := by unfold pBond; rw [h]; simp only [h2]
/-- Behind the bond's name and its line. -/
def pTail (k : Bool) (b : ByteArray) (l : List UInt8) : Except Nat (Stp × List UInt8) := match (if k = true then .ok l else pNeed 62 l) with
  | .error e => .error e
  | .ok r2 => match pNeed 32 r2 with
    | .error e => .error e
    | .ok r3 => pKind b k r3
theorem bond_ok {k : Bool} {l r r1 : List UInt8} {b : ByteArray} (h : pName l = .ok (b, r)) (h2 : pNeed 45 r = .ok r1) : pBond k l = pTail k b r1 := by
  unfold pBond pTail
  rw [h]
  simp only [h2]
  cases k with
  | true => rw [if_pos rfl]; cases pNeed 32 r1 <;> rfl
  | false =>
    rw [if_neg (by decide)]
    cases pNeed 62 r1 with
    | error e => rfl
    | ok r2 => show (match pNeed 32 r2 with | .error e => _ | .ok r3 => _) = (match pNeed 32 r2 with | .error e => _ | .ok r3 => _); cases pNeed 32 r2 <;> rfl
theorem tail_e1 {b : ByteArray} {l : List UInt8} {n : Nat} (h : pNeed 62 l = .error n) : pTail false b l = .error n := by unfold pTail; rw [if_neg (by decide), h]
/-- Behind the line's end. -/
def pLast (k : Bool) (b : ByteArray) (l : List UInt8) : Except Nat (Stp × List UInt8) := match pNeed 32 l with | .error e => .error e | .ok r3 => pKind b k r3
theorem tail_ok {b : ByteArray} {l r : List UInt8} (h : pNeed 62 l = .ok r) : pTail false b l = pLast false b r := by unfold pTail pLast; rw [if_neg (by decide), h]
theorem tail_back {b : ByteArray} {l : List UInt8} : pTail true b l = pLast true b l := by unfold pTail pLast; rw [if_pos rfl]
theorem last_e {k : Bool} {b : ByteArray} {l : List UInt8} {n : Nat} (h : pNeed 32 l = .error n) : pLast k b l = .error n := by unfold pLast; rw [h]
theorem last_ok {k : Bool} {b : ByteArray} {l r : List UInt8} (h : pNeed 32 l = .ok r) : pLast k b l = pKind b k r := by unfold pLast; rw [h]
theorem kind_e {k : Bool} {b : ByteArray} {l : List UInt8} {n : Nat} (h : pName l = .error n) : pKind b k l = .error n := by unfold pKind; rw [h]
/-- Behind a test. -/
def pTsR (acc : List Tst) (m : Nat) (r : List UInt8) : Except Nat (List Tst × List UInt8) := match r with
  | [] => .error 0
  | c :: r' => if c = 44 then pTs acc m r' else if c = 93 then .ok (acc, r') else .error r.length
theorem ts_e {acc : List Tst} {m : Nat} {l : List UInt8} {n : Nat} (h : pTest l = .error n) : pTs acc (m + 1) l = .error n := by
  show (match pTest l with | .error e => _ | .ok (t, r) => _) = _
  rw [h]
theorem ts_ok {acc : List Tst} {m : Nat} {l r : List UInt8} {t : Tst} (h : pTest l = .ok (t, r)) : pTs acc (m + 1) l = pTsR (acc ++ [t]) m r := by
  show (match pTest l with | .error e => _ | .ok (t, r) => _) = _
  rw [h]
  cases r <;> rfl
/-- A step with these tests, if there are such. -/
def withTs (b : ByteArray) (k : Bool) (n : ByteArray) (res : Except Nat (List Tst × List UInt8)) : Except Nat (Stp × List UInt8) := match res with | .error e => .error e | .ok (ts, r2) => .ok (⟨b, k, n, ts⟩, r2)
theorem kind_plain {k : Bool} {b n : ByteArray} {l r : List UInt8} (h : pName l = .ok (n, r)) (hr : ∀ r', r ≠ 91 :: r') : pKind b k l = .ok (⟨b, k, n, []⟩, r) := by
  unfold pKind
  rw [h]
  cases r with
  | nil => rfl
  | cons c r' =>
    show (if c = 91 then _ else _) = _
    rw [if_neg (fun e => hr r' (by rw [e]))]
theorem kind_ts {k : Bool} {b n : ByteArray} {l r : List UInt8} (h : pName l = .ok (n, 91 :: r)) : pKind b k l = withTs b k n (pTs [] (r.length + 1) r) := by
  unfold pKind
  rw [h]
  show (if (91 : UInt8) = 91 then _ else _) = _
  rw [if_pos rfl]
  cases pTs [] (r.length + 1) r <;> rfl
def ends2 : ByteArray := ⟨#[44, 93]⟩
theorem ends2_in (x : UInt8) : x ∈ ends2.data.toList ↔ (x = 44 ∨ x = 93) := by show x ∈ [44, 93] ↔ _; simp
theorem tsR_e {acc : List Tst} {m : Nat} {r : List UInt8} {n : Nat} (h : pAny ends2.data.toList r = .error n) : pTsR acc m r = .error n := by
  obtain ⟨e1, e2⟩ := any_miss h
  subst e2
  cases r with
  | nil => rfl
  | cons c r1 =>
    have hc : ¬ (c = 44 ∨ c = 93) := fun hc => by
      rw [pNext_hit ((ends2_in c).2 hc)] at e1
      injection e1 with e1 e2
      have := congrArg List.length e2
      simp at this
    show (if c = 44 then _ else if c = 93 then _ else _) = _
    rw [if_neg (fun e => hc (.inl e)), if_neg (fun e => hc (.inr e))]
theorem tsR_more {acc : List Tst} {m : Nat} {r : List UInt8} : pTsR acc m (44 :: r) = pTs acc m r := rfl
theorem tsR_end {acc : List Tst} {m : Nat} {r : List UInt8} : pTsR acc m (93 :: r) = .ok (acc, r) := rfl
theorem test_len {l r : List UInt8} {t : Tst} (h : pTest l = .ok (t, r)) : r.length ≤ l.length := by
  rw [pTest_ok h, List.length_append]; omega
theorem name_sm {l r : List UInt8} {n : ByteArray} (h : pName l = .ok (n, r)) : n.size + r.length = l.length := by
  have h2 := congrArg List.length (pName_ok h)
  rw [List.length_append, Array.length_toList] at h2
  exact h2.symm
theorem val_okx {v : Val} (h : valE v = 0) : v.ok := by
  rcases val_parts h with ⟨h1, h2, h3, h4⟩ | ⟨h1, h2, h3⟩ | ⟨h1, h2, h3, _⟩
  · exact ⟨by rw [h1]; unfold I64; omega, by unfold I64; omega, by rw [h4]; unfold Sm; show (0 : Nat) ≤ _; omega⟩
  · exact ⟨by rw [h1]; unfold I64; omega, by unfold I64; omega, by rw [h3]; unfold Sm; show (0 : Nat) ≤ _; omega⟩
  · exact ⟨by rw [h1]; unfold I64; omega, by rw [h2]; unfold I64; omega, by unfold Sm; omega⟩
theorem tst_okx {l r : List UInt8} {t : Tst} (h : pTest l = .ok (t, r)) (hl : l.length ≤ 1048576) : t.ok := by
  unfold pTest at h
  split at h
  · cases h
  · rename_i n r1 hn
    have h1 := name_sm hn
    have hns : Sm n := by unfold Sm; omega
    have hh : ∀ (k : Int) (q : List UInt8), I64 k → pHow n k q = .ok (t, r) → t.ok := fun k q hk hp => by
      unfold pHow at hp
      split at hp
      · cases hp
      · rename_i v r2 hv
        injection hp with hp
        injection hp with hp _
        subst hp
        exact ⟨hns, hk, val_okx (pVal_ok hv).2⟩
    have hz : Tst.ok ⟨n, 4, zVal⟩ := ⟨hns, (show I64 4 from ⟨by decide, by decide⟩), (show I64 0 from ⟨by decide, by decide⟩), (show I64 0 from ⟨by decide, by decide⟩), (show Sm .empty by unfold Sm; decide)⟩
    unfold pSign at h
    split at h
    · injection h with h
      injection h with h _
      subst h; exact hz
    · split at h
      · exact hh 1 _ ⟨by decide, by decide⟩ h
      · split at h
        · exact hh 2 _ ⟨by decide, by decide⟩ h
        · split at h
          · exact hh 3 _ ⟨by decide, by decide⟩ h
          · injection h with h
            injection h with h _
            subst h; exact hz
end Go.Proofs.YtakidgndipnciaaDoor
