/- Parts: KinE, KinF, KinG, KinP, KinH, KinI, KinJ, KinK, KinL, SamA, RefA, TxW, VtC, RcA. -/
import Derived.Test.YtdmpkgiijddcdaaGreatDoorMg06
import Derived.Test.YtdmpkgiijddcdaaGreatDoorMg07
import Derived.Test.YtdmpkgiijddcdaaGreatDoorMg08
import Derived.Test.YtdmpkgiijddcdaaGreatDoorMg09
import Derived.Deep.RegionHeld3
import Derived.Test.YtdmpkgiijddcdaaGreatDoorMg02
import Derived.Lib.Split
import Derived.Lib.CutLaws
/- Contracts: kind.FieldsOf's comparison and its binary search. -/
namespace Go.Proofs.YtdmpkgiijddcdaaGreatDoor
open Go.RowKit


def fldC (name : ByteArray) (f : Fld) : Int := cmpS f.name name
/-- One more field. -/
def putF (l : List Fld) (f : Fld) : Option (List Fld) :=
  if eqAt (fldC f.name) l (lowI (fldC f.name) l) then (if l[lowI (fldC f.name) l]? = some f then some l else none)
  else some (l.take (lowI (fldC f.name) l) ++ f :: l.drop (lowI (fldC f.name) l))
/-- All fields of some kinds, one behind the other. -/
def allF (fs : List Fld) : Option (List Fld) := fs.foldlM putF []
def fieldsOf (l : List Knd) (name : ByteArray) : Option (List Fld) :=
  allF ((kinL l name).flatMap fun s => match l.find? (fun k => decide (k.name = s)) with | some k => k.fields | none => [])


/-! ### What is wrong with kinds -/
/-! ### Where it is -/
/-! ### Kinds that are right -/
/-! ### Kin -/
/-! ### Fields -/
open Go Go.RowKit


theorem Sl.take {D : Type} {L : Lay D} {w : World} {A : Option Addr} {n c : Nat} {l : List D} (h : Sl L w (.slice A n c) l) {k : Nat} (hk : k ≤ l.length) : Sl L w (.slice A k c) (l.take k) := by
  obtain ⟨A', c', hv, h1, h2, h3⟩ := h
  injection hv with hA hn hc
  subst hA; subst hc
  have hl : (l.take k).length = k := by simp; omega
  refine ⟨A, c, by rw [hl], by rw [hl]; omega, h2, fun i d hi => ?_⟩
  rw [List.getElem?_take] at hi
  split at hi
  · exact h3 i d hi
  · cases hi






theorem bytes_at (s : ByteArray) (k : Nat) (h : k < s.size) : s.data.toList[k]? = some s[k] := by
  rw [List.getElem?_eq_getElem (by simpa using h)]; rfl
set_option maxHeartbeats 1000000 in
theorem rname_any (s : ByteArray) (w : World) (hs : Sm s) : Calls Tryz.prog 21 #[.string s] w fun e w' => e = .returned (.int .i64 (nameE s)) ∧ w = w' := by
  unfold Sm at hs
  by_cases h0 : s.toList.isEmpty = true
  · have HE : Hid (nameE s = 2) := by unfold Hid nameE; rw [if_pos h0]
    have h1 : s.toList = [] := by simpa using h0
    clear h0
    go_enter Tryz.func21, Tryz.ntmps21
    go_wp2_with fail
    go_ret
    exact ⟨by rw [HE.out]; rfl, rfl⟩
  have h1 : s.toList.isEmpty = false := by simpa using h0
  have h2 : ¬ s.toList = [] := by intro e; rw [e] at h1; simp at h1
  by_cases h8 : 8 < s.size
  · have HE : Hid (nameE s = 2) := by unfold Hid nameE; rw [if_neg h0, if_pos h8]
    have h8' : (8 : Int) < (s.size : Int) := by omega
    clear h0
    go_enter Tryz.func21, Tryz.ntmps21
    go_wp2_with fail
    go_ret
    exact ⟨by rw [HE.out]; rfl, rfl⟩
  have h8' : (s.size : Int) ≤ 8 := by omega
  have HE0 : Hid (nameE s = if s.data.toList.any nameC then 2 else 0) := by unfold Hid nameE; rw [if_neg h0, if_neg h8]
  clear h0
  go_enter Tryz.func21, Tryz.ntmps21
  go_wp2_with fail
  go_loop [3] (fun i => ∃ k : Nat, k ≤ s.size ∧ i = .int .i64 k ∧ Hid (∀ j x, j < k → s.data.toList[j]? = some x → nameC x = false)) (fun i => s.size - (intOf i).toNat)
  case atStart => exact ⟨0, Nat.zero_le _, rfl, fun j x hj => absurd hj (Nat.not_lt_zero _)⟩
  case round =>
    obtain ⟨k, hk, rfl, HA⟩ := hrel
    by_cases hlt : k < s.size
    · have hlt' : (k : Int) < (s.size : Int) := by omega
      have HB := Lib.hid (bytes_at s k hlt)
      by_cases hlo : (s[k].toNat : Int) < 97
      · have HE : Hid (nameE s = 2) := by
          unfold Hid; rw [HE0.out, if_pos]
          exact List.any_eq_true.2 ⟨_, List.mem_of_getElem? HB.out, by unfold nameC; rw [decide_eq_true hlo]; rfl⟩
        clear HE0
        go_wp2_with fail
        go_ret
        exact ⟨by rw [HE.out]; rfl, rfl⟩
      · have hlo' : (97 : Int) ≤ (s[k].toNat : Int) := by omega
        by_cases hhi : (122 : Int) < (s[k].toNat : Int)
        · have HE : Hid (nameE s = 2) := by
            unfold Hid; rw [HE0.out, if_pos]
            exact List.any_eq_true.2 ⟨_, List.mem_of_getElem? HB.out, by unfold nameC; rw [decide_eq_true hhi]; simp⟩
          clear HE0
          go_wp2_with fail
          go_ret
          exact ⟨by rw [HE.out]; rfl, rfl⟩
        · have hhi' : (s[k].toNat : Int) ≤ 122 := by omega
          have HS : Hid (∀ j x, j < k + 1 → s.data.toList[j]? = some x → nameC x = false) := miss_step HA.out HB.out (by unfold nameC; rw [decide_eq_false hlo, decide_eq_false hhi]; rfl)
          clear hlo hhi HE0
          go_wp2_with fail
          go_round
          case rel => exact ⟨k + 1, by omega, by go_num, HS⟩
          case measure => simp [intOf]; omega
    · obtain rfl : k = s.size := by omega
      have HE : Hid (nameE s = 0) := by
        unfold Hid; rw [HE0.out, if_neg]
        intro h
        obtain ⟨x, hx, hc⟩ := List.any_eq_true.1 h
        obtain ⟨j, hj⟩ := List.mem_iff_getElem?.1 hx
        have := HA.out j x (by have := (List.getElem?_eq_some_iff.1 hj).1; simpa using this) hj
        rw [this] at hc; cases hc
      clear HE0
      go_wp2_with fail
      go_ret
      exact ⟨by rw [HE.out]; rfl, rfl⟩


open Go

/-- Cut at each that is in no quotes. -/
def cutF (c : UInt8) : Bool → List UInt8 → List UInt8 → List (List UInt8)
  | _, cur, [] => [cur]
  | q, cur, x :: l => if x = 39 then cutF c (!q) (cur ++ [x]) l else if x = c ∧ q = false then cur :: cutF c false [] l else cutF c q (cur ++ [x]) l
def cutL (c : UInt8) (l : List UInt8) : List (List UInt8) := cutF c false [] l

theorem ext_list (s : ByteArray) (f k : Nat) : s.extract f k = bs ((s.data.toList.drop f).take (k - f)) := by
  rw [← bs_of (s.extract f k), Lib.extract_data]
end Go.Proofs.YtdmpkgiijddcdaaGreatDoor
