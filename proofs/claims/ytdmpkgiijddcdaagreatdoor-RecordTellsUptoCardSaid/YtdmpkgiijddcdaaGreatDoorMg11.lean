/- Parts: RcA, VtR, VtG, TxM, VpP, VpA. -/
import Derived.Test.YtdmpkgiijddcdaaGreatDoorMg10
import Derived.Test.YtdmpkgiijddcdaaGreatDoorMg03
import Derived.Shelf.Strings.Cut
import Derived.Shelf.Strings.Split
import Derived.Shelf.Small.Wraps
import Derived.Shelf.Small.Strs
import Derived.Lib.AtoiTie
import Derived.Test.YtdmpkgiijddcdaaGreatDoorMg09
/- Contract: record.Cut: a text cut at a sign that is in no quotes. Conditions: the text is not too long; the sign is no quote. -/
namespace Go.Proofs.YtdmpkgiijddcdaaGreatDoor
open Go Go.RowKit

theorem take_more {l : List UInt8} {f k : Nat} {x : UInt8} (hf : f ≤ k) (hx : l[k]? = some x) : (l.drop f).take (k + 1 - f) = (l.drop f).take (k - f) ++ [x] := by
  have e : k + 1 - f = (k - f) + 1 := by omega
  rw [e, List.take_add_one, List.getElem?_drop]
  have e2 : f + (k - f) = k := by omega
  rw [e2, hx]; rfl
theorem drop_one {l : List UInt8} {k : Nat} {x : UInt8} (hx : l[k]? = some x) : l.drop k = x :: l.drop (k + 1) := by
  have hlt := (List.getElem?_eq_some_iff.1 hx).1
  rw [List.drop_eq_getElem_cons hlt]
  have := (List.getElem?_eq_some_iff.1 hx).2
  rw [this]
theorem ext_list (s : ByteArray) (f k : Nat) : s.extract f k = bs ((s.data.toList.drop f).take (k - f)) := by
  rw [← bs_of (s.extract f k), Lib.extract_data]
theorem flat_wv : ∀ xs : List (List UInt8), (xs.map bs).flatMap (fun s => [Value.string s]) = wv xs
  | [] => rfl
  | x :: xs => by
    have ih := flat_wv xs
    unfold wv at ih ⊢
    rw [List.map_cons, List.flatMap_cons, ih]; rfl
theorem own_words {w : World} {B : Nat} {v : Value} {xs : List (List UInt8)} (h : Own w B 9 1 v xs.length (wv xs)) (hl : ∀ x ∈ xs, x.length ≤ 1048576) : Sl strL w v (xs.map bs) := by
  have h2 : Own w B 9 1 v (xs.map bs).length ((xs.map bs).flatMap fun s => [.string s]) := by
    have e : (xs.map bs).flatMap (fun s => [Value.string s]) = wv xs := flat_wv xs
    rw [e, List.length_map]; exact h
  refine Own.flat (enc := fun s : ByteArray => [Value.string s]) (n := 1) (ok := Sm) (fun _ => rfl) (fun x hx => ?_) h2
  · obtain ⟨y, hy, rfl⟩ := List.mem_map.1 hx
    unfold Sm; rw [bs_size]; exact hl y hy
theorem cutF_lens (c : UInt8) : ∀ (l : List UInt8) (q : Bool) (cur : List UInt8), ∀ x ∈ cutF c q cur l, x.length ≤ cur.length + l.length
  | [], q, cur, x, hx => by rcases List.mem_singleton.1 hx with rfl; simp
  | y :: l, q, cur, x, hx => by
    rw [cutF_cons] at hx
    split at hx
    · have := cutF_lens c l _ _ x hx; simp at *; omega
    · split at hx
      · rcases List.mem_cons.1 hx with rfl | hx
        · simp
        · have := cutF_lens c l _ _ x hx; simp at *; omega
      · have := cutF_lens c l _ _ x hx; simp at *; omega
set_option maxHeartbeats 4000000 in
theorem cut_any (s : ByteArray) (c : UInt8) (w : World) (hs : Sm s) :
    Calls Tryz.prog 82 #[.string s, .int .u8 c.toNat] w fun e w' => ∃ A k, e = .returned (.slice A (cutL c s.data.toList).length k) ∧ Sl strL w' (.slice A (cutL c s.data.toList).length k) ((cutL c s.data.toList).map bs) ∧ Below w.heap.size w w' := by
  obtain ⟨i0, ei, ez, ez1, ez2⟩ := info_parts str_info
  have hle : s.data.toList.length = s.size := by rw [Array.length_toList]; rfl
  unfold Sm at hs
  have HLE := Lib.hid hle
  have HLN : Hid (∀ x ∈ cutL c s.data.toList, x.length ≤ 1048576) := fun x hx => by
    have := cutF_lens c s.data.toList false [] x hx
    simp at this
    omega
  clear hle
  go_enter Tryz.func82, Tryz.ntmps82
  go_wp2_with fail
  go_loopw [4, 5, 6, 7, 10, 13, 20] (fun x4 x5 x6 _ x10 _ _ wr => ∃ (k f : Nat) (done : List (List UInt8)) (q : Bool), k ≤ s.size ∧ f ≤ k ∧ done.length ≤ k ∧ x10 = .int .i64 k ∧ x5 = .int .i64 f ∧ x6 = .bool q ∧ Below w.heap.size w wr ∧ Hid (Own wr w.heap.size 9 1 x4 done.length (wv done)) ∧ Hid (done ++ cutF c q ((s.data.toList.drop f).take (k - f)) (s.data.toList.drop k) = cutL c s.data.toList)) (fun _ _ _ _ i _ _ _ => s.size - (intOf i).toNat)
  case atStart => exact ⟨0, 0, [], false, Nat.zero_le _, Nat.le_refl _, Nat.le_refl _, rfl, rfl, rfl, Below.refl _ _, Own.nil _ _ _ _, rfl⟩
  case round =>
    obtain ⟨k, f, done, q, hk, hfk, hdk, rfl, rfl, rfl, hbr, HO, HX⟩ := hrel
    obtain ⟨wo, hwo⟩ : ∃ wo : World, wo = wr := ⟨_, rfl⟩
    subst hwo
    obtain ⟨A4, c4, rfl, hc4, _⟩ := HO.out.form
    by_cases hlt : k < s.size
    · have hlt' : (k : Int) < (s.size : Int) := by omega
      have hx : s.data.toList[k]? = some s[k] := by
        rw [List.getElem?_eq_getElem (by rw [HLE.out]; exact hlt)]; rfl
      have HX1 := Lib.hid (take_more hfk hx)
      have HX2 := Lib.hid (drop_one hx)
      have HST : Hid (done ++ cutF c q ((s.data.toList.drop f).take (k - f)) (s[k] :: s.data.toList.drop (k + 1)) = cutL c s.data.toList) := by
        unfold Hid; rw [← HX2.out]; exact HX.out
      generalize hsk : s[k] = x at *
      have HSK := Lib.hid hsk
      clear hx HX HX2
      by_cases h39 : x = 39
      · have hb39 : ((s[k].toNat : Int) == 39) = true := by rw [HSK.out, h39]; rfl
        have HN : Hid (done ++ cutF c (!q) ((s.data.toList.drop f).take (k + 1 - f)) (s.data.toList.drop (k + 1)) = cutL c s.data.toList) := by
          unfold Hid; rw [HX1.out, ← HST.out, cutF_cons, if_pos h39]
        clear h39 hsk HST HX1
        go_wp2_with fail
        go_roundw
        case rel => exact ⟨k + 1, f, done, !q, by omega, by omega, by omega, by go_num, rfl, rfl, hbr, HO, HN⟩
        case measure => simp [intOf]; omega
      · have hb39 : ((s[k].toNat : Int) == 39) = false := by
          rw [HSK.out, beq_eq_false_iff_ne]
          intro e
          exact h39 (UInt8.toNat_inj.1 (by show x.toNat = 39; omega))
        by_cases hc : x = c
        · have hbc : ((s[k].toNat : Int) == (c.toNat : Int)) = true := by rw [HSK.out, hc]; simp
          cases q with
          | true =>
            have HN : Hid (done ++ cutF c true ((s.data.toList.drop f).take (k + 1 - f)) (s.data.toList.drop (k + 1)) = cutL c s.data.toList) := by
              unfold Hid; rw [HX1.out, ← HST.out, cutF_cons, if_neg h39, if_neg (fun e => by cases e.2)]
            clear h39 hsk HST HX1 hc
            go_wp2_with fail
            go_roundw
            case rel => exact ⟨k + 1, f, done, true, by omega, by omega, by omega, by go_num, rfl, rfl, hbr, HO, HN⟩
            case measure => simp [intOf]; omega
          | false =>
            have HN : Hid ((done ++ [(s.data.toList.drop f).take (k - f)]) ++ cutF c false ((s.data.toList.drop (k + 1)).take (k + 1 - (k + 1))) (s.data.toList.drop (k + 1)) = cutL c s.data.toList) := by
              unfold Hid; rw [← HST.out, cutF_cons, if_neg h39, if_pos ⟨hc, rfl⟩]; simp
            clear h39 hsk HST HX1 hc
            -- an append of s[f:k]: 30, 35: the temporaries; wo: the world; k: the piece's end, spelled
            have HOA : Hid (Own (wo.alloc (.cells #[.string (s.extract f k)] 9)) w.heap.size 9 1 (.slice A4 done.length c4) done.length (wv done)) := HO.out.alloc _
            have HN : Hid (∀ j u, ([.string (s.extract f k)] : List Value)[j]? = some u → (wo.alloc (.cells #[.string (s.extract f k)] 9)).cell? ⟨wo.heap.size, j, none⟩ = some u) := fun j u hj => by
              rw [World.cell?_alloc_at _ _ _ _ rfl]; simpa using hj
            have hA4 := hbr.alloc hbr.size (.cells #[.string (s.extract f k)] 9)
            clear hbr HO
            go_wp2_with (at_builtin; refine wpList_append_q _ rfl (.tmp 30) (.tmp 35) _ rfl w.heap.size 9 i0 (.string .empty) 1 16 Tryz.underlying32 ei ez ez1 ez2 rfl (by decide) (.slice A4 done.length c4) done.length (wv done) rfl HOA.out (some ⟨wo.heap.size, 0, none⟩) 1 1 [.string (s.extract f k)] rfl rfl (fun _ => ⟨_, rfl, fun j u hj => by rw [addr_add, Nat.zero_add]; exact HN.out j u hj⟩) (fun u hu => by simp at hu; subst hu; rfl) (by unfold maxLen; omega) (by omega) (by have := hA4.size; exact this) ?_; intro v9 w9 hown9 hg9 hat9)
            have hB9 : Below w.heap.size w w9 := hA4.grown hg9 hA4.size (fun kk e => (HOA.out.lt kk e).1)
            have HO9 : Hid (Own w9 w.heap.size 9 1 v9 (done.length + 1) (wv (done ++ [(s.data.toList.drop f).take (k - f)]))) := by
              unfold Hid wv
              rw [List.map_append]
              have h := hown9
              rw [ext_list] at h
              exact h
            clear hg9 hat9 hown9 HOA HN hA4
            go_wp2_with fail
            go_roundw
            case rel => exact ⟨k + 1, k + 1, done ++ [(s.data.toList.drop f).take (k - f)], false, by omega, by omega, by simp; omega, by go_num, by go_num, rfl, hB9, by rw [List.length_append]; exact HO9, HN⟩
            case measure => simp [intOf]; omega
        · have hbc : ((s[k].toNat : Int) == (c.toNat : Int)) = false := by
            rw [HSK.out, beq_eq_false_iff_ne]
            intro e
            exact hc (UInt8.toNat_inj.1 (by omega))
          have HN : Hid (done ++ cutF c q ((s.data.toList.drop f).take (k + 1 - f)) (s.data.toList.drop (k + 1)) = cutL c s.data.toList) := by
            unfold Hid; rw [HX1.out, ← HST.out, cutF_cons, if_neg h39, if_neg (fun e => hc e.1)]
          clear h39 hsk HST HX1 hc
          go_wp2_with fail
          go_roundw
          case rel => exact ⟨k + 1, f, done, q, by omega, by omega, by omega, by go_num, rfl, rfl, hbr, HO, HN⟩
          case measure => simp [intOf]; omega
    · obtain rfl : k = s.size := by omega
      have hdn : decide (s.size < s.size) = false := by simp
      have HN : Hid (done ++ [(s.data.toList.drop f).take (s.size - f)] = cutL c s.data.toList) := by
        have h := HX.out
        have e : s.data.toList.drop s.size = [] := List.drop_eq_nil_of_le (by rw [HLE.out]; exact Nat.le_refl _)
        rw [e] at h
        exact h
      clear hlt hk HX
      -- an append of s[f:s.size]: 40, 44: the temporaries; wo: the world; s.size: the piece's end, spelled
      have HOA : Hid (Own (wo.alloc (.cells #[.string (s.extract f s.size)] 9)) w.heap.size 9 1 (.slice A4 done.length c4) done.length (wv done)) := HO.out.alloc _
      have HN : Hid (∀ j u, ([.string (s.extract f s.size)] : List Value)[j]? = some u → (wo.alloc (.cells #[.string (s.extract f s.size)] 9)).cell? ⟨wo.heap.size, j, none⟩ = some u) := fun j u hj => by
        rw [World.cell?_alloc_at _ _ _ _ rfl]; simpa using hj
      have hA4 := hbr.alloc hbr.size (.cells #[.string (s.extract f s.size)] 9)
      clear hbr HO
      go_wp2_with (at_builtin; refine wpList_append_q _ rfl (.tmp 40) (.tmp 44) _ rfl w.heap.size 9 i0 (.string .empty) 1 16 Tryz.underlying32 ei ez ez1 ez2 rfl (by decide) (.slice A4 done.length c4) done.length (wv done) rfl HOA.out (some ⟨wo.heap.size, 0, none⟩) 1 1 [.string (s.extract f s.size)] rfl rfl (fun _ => ⟨_, rfl, fun j u hj => by rw [addr_add, Nat.zero_add]; exact HN.out j u hj⟩) (fun u hu => by simp at hu; subst hu; rfl) (by unfold maxLen; omega) (by omega) (by have := hA4.size; exact this) ?_; intro v9 w9 hown9 hg9 hat9)
      have hB9 : Below w.heap.size w w9 := hA4.grown hg9 hA4.size (fun kk e => (HOA.out.lt kk e).1)
      have HO9 : Hid (Own w9 w.heap.size 9 1 v9 (done.length + 1) (wv (done ++ [(s.data.toList.drop f).take (s.size - f)]))) := by
        unfold Hid wv
        rw [List.map_append]
        have h := hown9
        rw [ext_list] at h
        exact h
      clear hg9 hat9 hown9 HOA HN hA4
      go_wp2_with fail
      have hn9 : done.length + 1 = (cutL c s.data.toList).length := by rw [← HN.out]; simp
      obtain ⟨A9, c9, rfl, _, _⟩ := HO9.out.form
      have HF : Hid (Sl strL w9 (.slice A9 (cutL c s.data.toList).length c9) ((cutL c s.data.toList).map bs)) := by
        have h := HO9.out
        rw [HN.out, hn9] at h
        exact own_words h HLN.out
      have HN9 := Lib.hid hn9
      clear hn9 HN HO9 HLN
      go_ret
      exact ⟨A9, c9, by first | rfl | (rw [HN9.out]; rfl), HF.out, hB9⟩
open Go

/-- A piece as a property. -/
def pieceP (x : List UInt8) : Option Prp := if (Lib.cut x [61]).2.2 = true ∧ readE (Lib.cut x [61]).2.1 = 0 then some ⟨bs (Lib.cut x [61]).1, readV (Lib.cut x [61]).2.1⟩ else none
def propsP : List (List UInt8) → Option (List Prp)
  | [] => some []
  | x :: xs => match pieceP x with
    | none => none
    | some p => match propsP xs with
      | none => none
      | some r => some (p :: r)
theorem propsP_cons (x : List UInt8) (xs : List (List UInt8)) : propsP (x :: xs) = match pieceP x with | none => none | some p => match propsP xs with | none => none | some r => some (p :: r) := rfl
theorem propsP_append : ∀ (a b : List (List UInt8)), propsP (a ++ b) = match propsP a with | none => none | some u => match propsP b with | none => none | some v => some (u ++ v)
  | [], b => by
    show propsP b = match propsP b with | none => none | some v => some ([] ++ v)
    cases propsP b <;> rfl
  | x :: a, b => by
    show propsP (x :: (a ++ b)) = _
    rw [propsP_cons, propsP_cons, propsP_append a b]
    cases pieceP x with
    | none => rfl
    | some p =>
      cases propsP a with
      | none => rfl
      | some u =>
        cases propsP b with
        | none => rfl
        | some v => rfl
theorem propsP_take {xs : List (List UInt8)} {k : Nat} {x : List UInt8} {u : List Prp} (h : propsP (xs.take k) = some u) (hx : xs[k]? = some x) : (pieceP x = none → propsP xs = none) ∧ ∀ p, pieceP x = some p → propsP (xs.take (k + 1)) = some (u ++ [p]) := by
  have e : xs.take (k + 1) = xs.take k ++ [x] := by rw [List.take_add_one, hx]; rfl
  constructor
  · intro hp
    have e2 : xs = xs.take (k + 1) ++ xs.drop (k + 1) := (List.take_append_drop _ _).symm
    rw [e2, propsP_append, e, propsP_append, h]
    simp only [propsP_cons, hp]
  · intro p hp
    rw [e, propsP_append, h]
    simp only [propsP_cons, hp]
    rfl
/-- A text as a record: the fault; the record. -/
def readRE (l : List UInt8) : Int := if l = [45] then 0 else match propsP (cutL 44 l) with | none => 2 | some r => recE r
def readRV (l : List UInt8) : List Prp := if l = [45] then [] else match propsP (cutL 44 l) with | none => [] | some r => if recE r = 0 then r else []

def nodeW : List UInt8 := [110, 111, 100, 101]
def tieW : List UInt8 := [116, 105, 101]
/-- A node, a tie of what stands behind its word. -/
def readNodL (l : List UInt8) : Option Nod := match Lib.splitN l [32] 3 with
  | [a, b, c] => if b = [] then none else match numL a 4 with
    | none => none
    | some n => if readRE c = 0 then some ⟨n, bs b, readRV c⟩ else none
  | _ => none
def readTieL (l : List UInt8) : Option Tie := match Lib.split l [32] with
  | [a, b, c] => if a = [] then none else match numL b 4, numL c 4 with
    | some x, some y => some ⟨bs a, x, y⟩
    | _, _ => none
  | _ => none
/-- A line more. -/
def lineT (g : Grf) (x : List UInt8) : Option Grf :=
  if Lib.hasSuffix x [10] = true then
    (if (Lib.cut (Lib.trimSuffix x [10]) [32]).1 = nodeW ∧ g.ties.length = 0 then (readNodL (Lib.cut (Lib.trimSuffix x [10]) [32]).2.1).map fun n => ⟨g.nodes ++ [n], g.ties⟩
     else if (Lib.cut (Lib.trimSuffix x [10]) [32]).1 = tieW then (readTieL (Lib.cut (Lib.trimSuffix x [10]) [32]).2.1).map fun t => ⟨g.nodes, g.ties ++ [t]⟩
     else none)
  else none
/-- Lines, one by one: the graph, or the number of the line that is wrong. -/
def runT (g : Grf) (n : Nat) : List (List UInt8) → Except Nat Grf
  | [] => .ok g
  | x :: xs => match lineT g x with
    | none => .error n
    | some g' => runT g' (n + 1) xs
open Go Go.Shelf Go.RowKit

-- written by shelflay.py for the seat YtdmpkgiijddcdaaGreatDoor
def cutLay_ren : Go.Shelf.Ren := ⟨fun | 145 => 83 | 220 => 129 | 219 => 166 | 217 => 142 | 225 => 192 | 224 => 193 | 267 => 194 | 266 => 174 | 314 => 211 | n => n, fun | 9 => 9 | 4 => 4 | 59 => 148 | 3 => 3 | 5 => 5 | 46 => 228 | 146 => 289 | 51 => 278 | 20 => 20 | n => n, fun | 1 => 4 | n => n⟩
theorem cutLay : Go.Proofs.Lays.n145 Tryz.prog cutLay_ren := {
  mixed := by kernel_rfl,
  f145 := Tryz.func83.trans (congrArg some (by kernel_rfl)),
  f217 := Tryz.func142.trans (congrArg some (by kernel_rfl)),
  f219 := Tryz.func166.trans (congrArg some (by kernel_rfl)),
  f220 := Tryz.func129.trans (congrArg some (by kernel_rfl)),
  f224 := Tryz.func193.trans (congrArg some (by kernel_rfl)),
  f225 := Tryz.func192.trans (congrArg some (by kernel_rfl)),
  f266 := Tryz.func174.trans (congrArg some (by kernel_rfl)),
  f267 := Tryz.func194.trans (congrArg some (by kernel_rfl)),
  f314 := Tryz.func211.trans (congrArg some (by kernel_rfl)),
  t3 := Tryz.underlying3,
  a3 := Tryz.isAgg3,
  z3 := Tryz.sizeOf3,
  v3 := Tryz.zeroValue3,
  t4 := Tryz.underlying4,
  a4 := Tryz.isAgg4,
  z4 := Tryz.sizeOf4,
  v4 := Tryz.zeroValue4,
  t5 := Tryz.underlying5,
  a5 := Tryz.isAgg5,
  z5 := Tryz.sizeOf5,
  v5 := Tryz.zeroValue5,
  t9 := Tryz.underlying9,
  a9 := Tryz.isAgg9,
  z9 := Tryz.sizeOf9,
  v9 := Tryz.zeroValue9,
  t46 := Tryz.underlying228,
  a46 := Tryz.isAgg228,
  z46 := Tryz.sizeOf228,
  v46 := Tryz.zeroValue228,
  t51 := Tryz.underlying278,
  a51 := Tryz.isAgg278,
  z51 := Tryz.sizeOf278,
  v51 := Tryz.zeroValue278,
  t59 := Tryz.underlying148,
  a59 := Tryz.isAgg148,
  z59 := Tryz.sizeOf148,
  v59 := Tryz.zeroValue148,
  t146 := Tryz.underlying289,
  a146 := Tryz.isAgg289,
  z146 := Tryz.sizeOf289,
  v146 := Tryz.zeroValue289,
  g1 := by kernel_rfl }
-- written by shelflay.py for the seat YtdmpkgiijddcdaaGreatDoor
-- written by shelflay.py for the seat YtdmpkgiijddcdaaGreatDoor
-- written by shelflay.py for the seat YtdmpkgiijddcdaaGreatDoor
-- written by shelflay.py for the seat YtdmpkgiijddcdaaGreatDoor
theorem len_size (s : ByteArray) : s.data.toList.length = s.size := by rw [Array.length_toList]; rfl
theorem tx_cut (s : ByteArray) (c : UInt8) (w : World) (h : TxP w) (hs : s.size < 4294967281) :
    Calls Tryz.prog 83 #[.string s, .string ⟨#[c]⟩] w fun e w' => e = .returned (.tuple #[.string (bs (Lib.cut s.data.toList [c]).1), .string (bs (Lib.cut s.data.toList [c]).2.1), .bool (Lib.cut s.data.toList [c]).2.2]) ∧ Below w.heap.size w w' := by
  obtain ⟨m, hm⟩ := h.len
  refine (Any.strings_Cut cutLay s ⟨#[c]⟩ m w hs hm).mono fun e w' ⟨he, n, hw⟩ => ⟨he, ?_⟩
  rw [hw]
  exact below_drewN (Below.refl _ _) n

/-- A numeral that is not too long is read as it was written. -/
theorem atoi_back (n : Int) (h : (Lib.trimPrefix (Lib.itoa n) [45]).length ≤ 9) : Lib.atoiAll (Lib.itoa n) = .ok n := by
  refine atoi_itoa ?_
  rcases itoa_cases n with ⟨u, hu, e⟩ | ⟨u, h0, hu, e⟩
  · rw [e, digits_trim] at h
    rw [e]; omega
  · rw [e, minus_trim] at h
    rw [e, List.length_cons]; omega
theorem atoi_range {l : List UInt8} {v : Int} (h : Lib.atoiAll l = .ok v) : I64 v := by
  unfold Lib.atoiAll at h
  unfold I64
  split at h
  · cases h
  · rename_i c r
    simp only at h
    split at h
    · cases h
    · cases h
    · rename_i u hu
      split at h
      · cases h
      · rename_i h1
        split at h
        · cases h
        · rename_i h2
          injection h with h
          by_cases hn : c.toNat = 45
          · rw [if_pos hn] at h
            have : ¬ 9223372036854775808 < u := fun e => h2 ⟨hn, e⟩
            omega
          · rw [if_neg hn] at h
            have : ¬ 9223372036854775808 ≤ u := fun e => h1 ⟨hn, e⟩
            omega
/-- Whether Atoi's number is written so, and is short: the number that is read. -/
theorem int_of_atoi {l : List UInt8} {v : Int} (h : Lib.atoiAll l = .ok v) : intL9 l = if Lib.itoa v = l ∧ (Lib.trimPrefix l [45]).length ≤ 9 then some v else none := by
  split
  · rename_i hc; exact intL9_iff.2 hc
  · rename_i hc
    cases hq : intL9 l with
    | none => rfl
    | some n =>
      obtain ⟨e1, e2⟩ := intL9_iff.1 hq
      have h2 := atoi_back n (by rw [e1]; exact e2)
      rw [e1, h] at h2
      injection h2 with h2
      subst h2
      exact absurd ⟨e1, e2⟩ hc
theorem int_of_bad {l : List UInt8} (h : ∀ v, Lib.atoiAll l ≠ .ok v) : intL9 l = none := by
  cases hq : intL9 l with
  | none => rfl
  | some n =>
    obtain ⟨e1, e2⟩ := intL9_iff.1 hq
    have h2 := atoi_back n (by rw [e1]; exact e2)
    rw [e1] at h2
    exact absurd h2 (h n)

theorem count_le2 {s : ByteArray} (c : UInt8) : Lib.countB s ⟨#[c]⟩ ≤ s.size + 1 := by
  have h := Lib.count_le s.data.toList [c]
  have e : s.data.toList.length = s.size := by rw [Array.length_toList]; rfl
  show Lib.count s.data.toList [c] ≤ _
  omega
/-- Each quote twice, by the library. -/
theorem doubled_any (s : ByteArray) (w : World) (h : TxP w) (hs : s.size ≤ 4294967280) :
    Calls Tryz.prog 67 #[.string s, .string ⟨#[39]⟩, .string ⟨#[39, 39]⟩] w fun e w' => e = .returned (.string (bs (dbl s.data.toList))) ∧ Below w.heap.size w w' := by
  have hc := count_le2 (s := s) 39
  have h1 : (⟨#[39, 39]⟩ : ByteArray).size = 2 := rfl
  have := tx_replace s ⟨#[39]⟩ ⟨#[39, 39]⟩ w h (by omega) (by decide) (by rw [h1]; omega)
  refine this.mono fun e w' ⟨he, hb⟩ => ⟨?_, hb⟩
  rw [he]
  show Ending.returned (.string (bs (Lib.replaceAll s.data.toList [39] [39, 39]))) = _
  rw [doubled]
theorem two_below (w : World) : Below w.heap.size w (w.alloc (.cells #[.string ⟨#[102, 97, 108, 115, 101]⟩, .string ⟨#[116, 114, 117, 101]⟩] 9)) := (Below.refl _ _).alloc (Nat.le_refl _) _
set_option maxHeartbeats 1000000 in
theorem vprint_any (v : Val) (hv : v.ok) (w : World) (hT : TxP w) :
    Calls Tryz.prog 15 #[.agg #[.int .i64 v.ty, .int .i64 v.n, .string v.s]] w fun e w' => e = .returned (.tuple #[.string (bs (if valE v = 0 then showL v else [])), errV (valE v)]) ∧ Below w.heap.size w w' := by
  obtain ⟨ty, n, s⟩ := v
  have hb0 : Below w.heap.size w (w.alloc (.cells #[.int .i64 ty, .int .i64 n, .string s] 43)) := (Below.refl _ _).alloc (Nat.le_refl _) _
  obtain ⟨x0, x1, x2⟩ := cell_box3 w (.int .i64 ty) (.int .i64 n) (.string s) 43
  have hx := check_any ⟨ty, n, s⟩ hv (w.alloc (.cells #[.int .i64 ty, .int .i64 n, .string s] 43))
  have HT := Lib.hid (hT.below hb0)
  obtain ⟨R, hR⟩ : ∃ R, R = (if valE ⟨ty, n, s⟩ = 0 then showL ⟨ty, n, s⟩ else []) := ⟨_, rfl⟩
  rw [← hR]
  have HR := Lib.hid hR
  have HP : Hid (valE ⟨ty, n, s⟩ = 0 → (ty = 1 ∧ -1000000 ≤ n ∧ n ≤ 1000000 ∧ s = .empty) ∨ (ty = 2 ∧ (n = 0 ∨ n = 1) ∧ s = .empty) ∨ (ty = 3 ∧ n = 0 ∧ s.size ≤ 20 ∧ s.data.toList.any strC = false)) := val_parts
  generalize valE ⟨ty, n, s⟩ = ee at *
  clear hT hR hv
  go_enter Tryz.func15, Tryz.ntmps15
  go_wp2_with fail
  generalize w.alloc (.cells #[.int .i64 ty, .int .i64 n, .string s] 43) = W0 at *
  refine hx.mono ?_
  clear hx
  rintro e w1 ⟨rfl, hb1⟩
  have hB1 := hb0.trans (hb1.mono hb0.size)
  have x0 := cell_below hb1 x0
  have x1 := cell_below hb1 x1
  have x2 := cell_below hb1 x2
  have HT1 := Lib.hid (HT.out.below hb1)
  by_cases hz : ee = 0
  case neg =>
    have HE : Hid (R = []) := by unfold Hid; rw [HR.out, if_neg hz]
    rw [errV_some hz]
    clear HR HP
    go_wp2_with fail
    go_ret2
    exact ⟨by rw [HE.out, errV_some hz]; rfl, hB1⟩
  rw [errV_zero hz]
  have HE : Hid (R = showL ⟨ty, n, s⟩) := by unfold Hid; rw [HR.out, if_pos hz]
  have HZ := Lib.hid hz
  rcases HP.out hz with ⟨rfl, h1, h2, rfl⟩ | ⟨rfl, h1, rfl⟩ | ⟨rfl, rfl, h1, _⟩
  · have hR : Hid (R = Lib.itoa n) := HE
    have hx := tx_itoa n (by omega) (by omega) w1 HT1.out.tab
    clear hz HR HP HE
    go_wp2_with fail
    refine hx.mono ?_
    clear hx
    rintro e w2 ⟨rfl, hb2⟩
    have hB2 := hB1.trans (hb2.mono hB1.size)
    go_wp2_with fail
    go_ret2
    exact ⟨by rw [hR.out, errV_zero HZ.out]; rfl, hB2⟩
  · rcases h1 with rfl | rfl
    · have hR : Hid (R = falseL) := HE
      have y1 := cell_below (two_below w1) x1
      clear hz HR HP HE x1
      go_wp2_with fail
      go_ret2
      exact ⟨by rw [hR.out, errV_zero HZ.out]; rfl, hB1.alloc hB1.size _⟩
    · have hR : Hid (R = trueL) := HE
      have y1 := cell_below (two_below w1) x1
      clear hz HR HP HE x1
      go_wp2_with fail
      go_ret2
      exact ⟨by rw [hR.out, errV_zero HZ.out]; rfl, hB1.alloc hB1.size _⟩
  · have hR : Hid (R = 39 :: (dbl s.data.toList ++ [39])) := HE.out.trans (show_text rfl)
    have hx := doubled_any s w1 HT1.out (by omega)
    have hl := dbl_len2 s.data.toList
    have hle : s.data.toList.length = s.size := by rw [Array.length_toList]; rfl
    have hsz : (bs (dbl s.data.toList)).size ≤ 40 := by rw [bs_size]; omega
    have hXE : Hid ((⟨#[39]⟩ ++ bs (dbl s.data.toList) ++ ⟨#[39]⟩ : ByteArray) = bs (39 :: (dbl s.data.toList ++ [39]))) := by
      unfold Hid
      show bs [39] ++ bs (dbl s.data.toList) ++ bs [39] = _
      rw [bs_append, bs_append]; simp
    generalize bs (dbl s.data.toList) = D at *
    have hc1 : ¬ 9223372036854775807 < 1 + D.size := by omega
    have hc2 : ¬ 9223372036854775807 < 1 + D.size + 1 := by omega
    clear hz HR HP HE hl hle
    go_wp2_with fail
    refine hx.mono ?_
    clear hx
    rintro e w2 ⟨rfl, hb2⟩
    have hB2 := hB1.trans (hb2.mono hB1.size)
    go_wp2_with fail
    go_ret2
    exact ⟨by rw [hR.out, errV_zero HZ.out, ← hXE.out]; rfl, hB2⟩
end Go.Proofs.YtdmpkgiijddcdaaGreatDoor
