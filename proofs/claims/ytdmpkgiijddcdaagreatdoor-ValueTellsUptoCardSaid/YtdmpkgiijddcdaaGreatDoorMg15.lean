/- Parts: ShA, Stir, VtR, VtG, TxM, LinA, RecT, RcB, NumA, TrA, TrB, TxI, TxJ, TxK, Numb. -/
import Derived.Test.YtdmpkgiijddcdaaGreatDoorMg13
import Derived.Test.YtdmpkgiijddcdaaGreatDoorMg14
import Derived.Deep.DeepCutAuto
import Derived.Test.YtdmpkgiijddcdaaGreatDoorMg01
import Derived.RangeFuncNested
import Derived.Test.YtdmpkgiijddcdaaGreatDoorMg06
import Derived.Shelf.Strings.Cut
import Derived.Shelf.Strings.Split
import Derived.Shelf.Small.Wraps
import Derived.Shelf.Small.Strs
import Derived.RegionIn
import Derived.Lib.IndexLaws
import Derived.IntWalk
import Derived.Test.YtdmpkgiijddcdaaGreatDoorMg09
import Derived.Test.YtdmpkgiijddcdaaGreatDoorMg11
import Derived.Test.YtdmpkgiijddcdaaGreatDoorMg07
import Derived.Test.YtdmpkgiijddcdaaGreatDoorMg02
import Derived.BigRegion
import Derived.Test.YtdmpkgiijddcdaaGreatDoorMg08
import Derived.Test.YtdmpkgiijddcdaaGreatDoorRows
import Derived.Deep.RegionLaw
/- Contract of the reference: kinref1.Show: a value that is right, as text. Condition: the value is right. -/
namespace Go.Proofs.YtdmpkgiijddcdaaGreatDoor
open Go Go.RowKit

theorem take_next {l : List UInt8} {k : Nat} {x : UInt8} (h : l[k]? = some x) : l.take (k + 1) = l.take k ++ [x] := by rw [List.take_add_one, h]; rfl
theorem ext_one {s : ByteArray} {k : Nat} {x : UInt8} (h : s.data.toList[k]? = some x) : s.extract k (k + 1) = bs [x] := by
  rw [ext_list, drop_cons_of h, show k + 1 - k = 1 by omega]; rfl
set_option maxRecDepth 100000 in
set_option maxHeartbeats 4000000 in
theorem rshow_any (v : Val) (hv : valE v = 0) (w : World) :
    Calls Tryz.prog 14 #[.agg #[.int .i64 v.ty, .int .i64 v.n, .string v.s]] w fun e w' => e = .returned (.string (bs (showL v))) ∧ Below w.heap.size w w' := by
  obtain ⟨ty, n, s⟩ := v
  have hb0 : Below w.heap.size w (w.alloc (.cells #[.int .i64 ty, .int .i64 n, .string s] 43)) := (Below.refl _ _).alloc (Nat.le_refl _) _
  have HF : Hid (showL ⟨ty, n, s⟩ = if ty = 1 then Lib.itoa n else if ty = 2 then (if n = 1 then trueL else falseL) else 39 :: (dbl s.data.toList ++ [39])) := rfl
  obtain ⟨c0, c1, c2⟩ := cell_box3 w (.int .i64 ty) (.int .i64 n) (.string s) 43
  rcases val_parts hv with ⟨rfl, h2, h3, h4⟩ | ⟨rfl, h2, h4⟩ | ⟨rfl, h2, h3, h4⟩
  · have h2 : -1000000 ≤ n := h2
    have h3 : n ≤ 1000000 := h3
    have HE : Hid (showL ⟨1, n, s⟩ = Lib.itoa n) := by unfold Hid; rw [HF.out, if_pos rfl]
    have hx := dig_any n ⟨h2, h3⟩ (w.alloc (.cells #[.int .i64 1, .int .i64 n, .string s] 43))
    clear HF hv h4
    go_enter Tryz.func14, Tryz.ntmps14
    go_wp2_with fail
    refine hx.mono ?_
    clear hx
    rintro e w1 ⟨rfl, hb1⟩
    go_wp2_with fail
    go_ret
    exact ⟨by rw [HE.out]; rfl, hb0.trans (hb1.mono hb0.size)⟩
  · have h2 : n = 0 ∨ n = 1 := h2
    rcases h2 with rfl | rfl
    · have HE : Hid (showL ⟨2, 0, s⟩ = falseL) := rfl
      clear HF hv h4
      go_enter Tryz.func14, Tryz.ntmps14
      go_wp2_with fail
      go_ret
      exact ⟨by rw [HE.out]; rfl, hb0⟩
    · have HE : Hid (showL ⟨2, 1, s⟩ = trueL) := rfl
      clear HF hv h4
      go_enter Tryz.func14, Tryz.ntmps14
      go_wp2_with fail
      go_ret
      exact ⟨by rw [HE.out]; rfl, hb0⟩
  · have h3 : s.size ≤ 20 := h3
    have HE : Hid (showL ⟨3, n, s⟩ = 39 :: (dbl s.data.toList ++ [39])) := by unfold Hid; rw [HF.out, if_neg (by omega), if_neg (by omega)]
    have hle : s.data.toList.length = s.size := by rw [Array.length_toList]; rfl
    have HLE := Lib.hid hle
    clear HF hv h4 h2 hle
    go_enter Tryz.func14, Tryz.ntmps14
    go_upto_region 8 with fail
    generalize w.alloc (.cells #[.int .i64 3, .int .i64 n, .string s] 43) = W0 at *
    go_wp2_with fail
    go_loop [3, 4] (fun sv i => ∃ k : Nat, k ≤ s.size ∧ i = .int .i64 k ∧ sv = .string (bs (39 :: dbl (s.data.toList.take k)))) (fun _ i => s.size - (intOf i).toNat)
    case atStart => exact ⟨0, Nat.zero_le _, rfl, by rw [List.take_zero]; rfl⟩
    case round =>
      obtain ⟨k, hk, rfl, rfl⟩ := hrel
      have hdl : (bs (39 :: dbl (s.data.toList.take k))).size ≤ 41 := by
        rw [bs_size]
        have := dbl_len2 (s.data.toList.take k)
        rw [List.length_take] at this
        simp only [List.length_cons]; omega
      by_cases hlt : k < s.size
      · have hlt' : (k : Int) < (s.size : Int) := by omega
        have HB := Lib.hid (bytes_at s k hlt)
        have HT := Lib.hid (take_next HB.out)
        have HX := Lib.hid (ext_one HB.out)
        have hxs : (s.extract k (k + 1)).size = 1 := by rw [HX.out, bs_size]; rfl
        by_cases hq : s[k] = 39
        · have q1 : ((s[k].toNat : Int) == 39) = true := by rw [hq]; rfl
          have q2 : (s[k].toNat : Int) = 39 := by rw [hq]; rfl
          have HN : Hid (bs (39 :: dbl (s.data.toList.take (k + 1))) = bs (39 :: dbl (s.data.toList.take k)) ++ ⟨#[39]⟩ ++ s.extract k (k + 1)) := by
            unfold Hid; rw [HT.out, HX.out, hq, dbl_append]
            show _ = bs (39 :: dbl (s.data.toList.take k)) ++ bs [39] ++ bs [39]
            rw [bs_append, bs_append]; simp [dbl]
          generalize bs (39 :: dbl (s.data.toList.take k)) = A at *
          have z1 : ¬ 9223372036854775807 < A.size + 1 := by omega
          have z2 : ¬ 9223372036854775807 < A.size + 1 + (s.extract k (k + 1)).size := by omega
          clear hq HT HX
          go_wp2_with fail
          go_round
          case rel => exact ⟨k + 1, by omega, by go_num, by rw [HN.out]⟩
          case measure => simp [intOf]; omega
        · have q2 : ¬ (s[k].toNat : Int) = 39 := fun e => hq (UInt8.toNat_inj.1 (by have : s[k].toNat = 39 := by omega
                                                                                    rw [this]; rfl))
          have q1 : ((s[k].toNat : Int) == 39) = false := beq_eq_false_iff_ne.2 q2
          have HN : Hid (bs (39 :: dbl (s.data.toList.take (k + 1))) = bs (39 :: dbl (s.data.toList.take k)) ++ s.extract k (k + 1)) := by
            unfold Hid; rw [HT.out, HX.out, dbl_append, bs_append, dbl_cons, if_neg hq]; rfl
          generalize bs (39 :: dbl (s.data.toList.take k)) = A at *
          have z2 : ¬ 9223372036854775807 < A.size + (s.extract k (k + 1)).size := by omega
          clear hq HT HX
          go_wp2_with fail
          go_round
          case rel => exact ⟨k + 1, by omega, by go_num, by rw [HN.out]⟩
          case measure => simp [intOf]; omega
      · obtain rfl : k = s.size := by omega
        have HN : Hid (bs (showL ⟨3, n, s⟩) = bs (39 :: dbl (s.data.toList.take s.size)) ++ ⟨#[39]⟩) := by
          unfold Hid; rw [HE.out, ← HLE.out, List.take_length]
          show _ = bs (39 :: dbl s.data.toList) ++ bs [39]
          rw [bs_append]; rfl
        generalize bs (39 :: dbl (s.data.toList.take s.size)) = A at *
        have z1 : ¬ 9223372036854775807 < A.size + 1 := by omega
        go_wp2_with fail
        go_ret
        exact ⟨by rw [HN.out]; rfl, hb0⟩

section
variable {F : Fence} {n : Nat} {P : Program} {α : Type}

end
open Go

/-- A piece as a property. -/
def pieceP (x : List UInt8) : Option Prp := if (Lib.cut x [61]).2.2 = true ∧ readE (Lib.cut x [61]).2.1 = 0 then some ⟨bs (Lib.cut x [61]).1, readV (Lib.cut x [61]).2.1⟩ else none
def propsP : List (List UInt8) → Option (List Prp)
  | [] => some []
  | x :: xs => match pieceP x with
    | none => none
    | some p => match propsP xs with
      | none => none
      | some r => some (p :: r)
/-- A text as a record: the fault; the record. -/
def readRE (l : List UInt8) : Int := if l = [45] then 0 else match propsP (cutL 44 l) with | none => 2 | some r => recE r
def readRV (l : List UInt8) : List Prp := if l = [45] then [] else match propsP (cutL 44 l) with | none => [] | some r => if recE r = 0 then r else []

def nodeW : List UInt8 := [110, 111, 100, 101]
def tieW : List UInt8 := [116, 105, 101]
/-- A node, a tie of what stands behind its word. -/
def readNodL (l : List UInt8) : Option Nod := match Lib.splitN l [32] 3 with
  | [a, b, c] => if b = [] then none else match numL a 4 with
    | none => none
    | some n => if readRE c = 0 then some ⟨n, bs b, readRV c⟩ else none
  | _ => none
def readTieL (l : List UInt8) : Option Tie := match Lib.split l [32] with
  | [a, b, c] => if a = [] then none else match numL b 4, numL c 4 with
    | some x, some y => some ⟨bs a, x, y⟩
    | _, _ => none
  | _ => none
/-- A line more. -/
def lineT (g : Grf) (x : List UInt8) : Option Grf :=
  if Lib.hasSuffix x [10] = true then
    (if (Lib.cut (Lib.trimSuffix x [10]) [32]).1 = nodeW ∧ g.ties.length = 0 then (readNodL (Lib.cut (Lib.trimSuffix x [10]) [32]).2.1).map fun n => ⟨g.nodes ++ [n], g.ties⟩
     else if (Lib.cut (Lib.trimSuffix x [10]) [32]).1 = tieW then (readTieL (Lib.cut (Lib.trimSuffix x [10]) [32]).2.1).map fun t => ⟨g.nodes, g.ties ++ [t]⟩
     else none)
  else none
/-- Lines, one by one: the graph, or the number of the line that is wrong. -/
def runT (g : Grf) (n : Nat) : List (List UInt8) → Except Nat Grf
  | [] => .ok g
  | x :: xs => match lineT g x with
    | none => .error n
    | some g' => runT g' (n + 1) xs
open Go Go.Shelf Go.RowKit

-- written by shelflay.py for the seat YtdmpkgiijddcdaaGreatDoor
-- written by shelflay.py for the seat YtdmpkgiijddcdaaGreatDoor
-- written by shelflay.py for the seat YtdmpkgiijddcdaaGreatDoor
-- written by shelflay.py for the seat YtdmpkgiijddcdaaGreatDoor
-- written by shelflay.py for the seat YtdmpkgiijddcdaaGreatDoor
open Go Go.RowKit Go.Shelf

attribute [local go_sem] Oper.semAt_some






theorem num_i64 {l : List UInt8} {m u : Nat} (hm : m ≤ 9) (h : numL l m = some u) : I64 (u : Int) := by
  have h1 := (numL_iff.1 h).1
  exact atoi_range (atoi_back (u : Int) (by rw [itoa_nat, digits_trim, ← h1]; have := (numL_iff.1 h).2; omega))

theorem setCell_other {w : World} {k q : Nat} {o : Obj} (h : w.heap[k]? = some o) (hne : k ≠ q) (i : Nat) (v : Value) : (w.setCell ⟨q, i, none⟩ v).heap[k]? = some o := (Below.heap_setCell w ⟨q, i, none⟩ v k hne).trans h

section
variable {b : Nat} {g : Grf} {An At : Option Addr} {cn ct : Nat} {xs : List Value} {pre : List (List UInt8)} {W W5 : World}
end

theorem bs_lit {K L M : List UInt8} (h : (bs L).toList = M) : ((bs K).toList = M) = (K = L) := propext
  ⟨fun e => by
    have e2 : bs K = bs L := by rw [← bytes_eq, h]; exact e
    simpa [bs] using congrArg (·.data.toList) e2, fun e => by rw [e]; exact h⟩
section
variable {b B : Nat} {w W X V : World} {g : Grf} {An At : Option Addr} {cn ct : Nat} {xs : List Value} {pre : List (List UInt8)}
end

end Go.Proofs.YtdmpkgiijddcdaaGreatDoor
