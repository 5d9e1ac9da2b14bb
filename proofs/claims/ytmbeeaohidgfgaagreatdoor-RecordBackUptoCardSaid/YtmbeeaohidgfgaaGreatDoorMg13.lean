/- Parts: VtR, VtG, TxM, VpP, VpA. -/
import Derived.Test.YtmbeeaohidgfgaaGreatDoorMg11
import Derived.Test.YtmbeeaohidgfgaaGreatDoorMg08
import Derived.Test.YtmbeeaohidgfgaaGreatDoorMg05
import Derived.Shelf.Strings.Cut
import Derived.Shelf.Strings.Split
import Derived.Shelf.Small.Wraps
import Derived.Shelf.Small.Strs
import Derived.Test.YtmbeeaohidgfgaaGreatDoorMg06
import Derived.Lib.AtoiTie
import Derived.Test.YtmbeeaohidgfgaaGreatDoorMg02
/- Plain: a text as a record. No condition. -/
namespace Go.Proofs.YtmbeeaohidgfgaaGreatDoor
open Go

/-- A piece as a property. -/
def pieceP (x : List UInt8) : Option Prp := if (Lib.cut x [61]).2.2 = true ∧ readE (Lib.cut x [61]).2.1 = 0 then some ⟨bs (Lib.cut x [61]).1, readV (Lib.cut x [61]).2.1⟩ else none
def propsP : List (List UInt8) → Option (List Prp)
  | [] => some []
  | x :: xs => match pieceP x with
    | none => none
    | some p => match propsP xs with
      | none => none
      | some r => some (p :: r)
theorem propsP_cons (x : List UInt8) (xs : List (List UInt8)) : propsP (x :: xs) = match pieceP x with | none => none | some p => match propsP xs with | none => none | some r => some (p :: r) := rfl
theorem propsP_append : ∀ (a b : List (List UInt8)), propsP (a ++ b) = match propsP a with | none => none | some u => match propsP b with | none => none | some v => some (u ++ v)
  | [], b => by
    show propsP b = match propsP b with | none => none | some v => some ([] ++ v)
    cases propsP b <;> rfl
  | x :: a, b => by
    show propsP (x :: (a ++ b)) = _
    rw [propsP_cons, propsP_cons, propsP_append a b]
    cases pieceP x with
    | none => rfl
    | some p =>
      cases propsP a with
      | none => rfl
      | some u =>
        cases propsP b with
        | none => rfl
        | some v => rfl
theorem propsP_take {xs : List (List UInt8)} {k : Nat} {x : List UInt8} {u : List Prp} (h : propsP (xs.take k) = some u) (hx : xs[k]? = some x) : (pieceP x = none → propsP xs = none) ∧ ∀ p, pieceP x = some p → propsP (xs.take (k + 1)) = some (u ++ [p]) := by
  have e : xs.take (k + 1) = xs.take k ++ [x] := by rw [List.take_add_one, hx]; rfl
  constructor
  · intro hp
    have e2 : xs = xs.take (k + 1) ++ xs.drop (k + 1) := (List.take_append_drop _ _).symm
    rw [e2, propsP_append, e, propsP_append, h]
    simp only [propsP_cons, hp]
  · intro p hp
    rw [e, propsP_append, h]
    simp only [propsP_cons, hp]
    rfl
theorem propsP_len : ∀ {xs : List (List UInt8)} {u : List Prp}, propsP xs = some u → u.length = xs.length
  | [], u, h => by obtain rfl := Option.some.inj h; rfl
  | x :: xs, u, h => by
    rw [propsP_cons] at h
    cases hp : pieceP x with
    | none => rw [hp] at h; cases h
    | some p =>
      rw [hp] at h
      cases hr : propsP xs with
      | none => rw [hr] at h; cases h
      | some r =>
        rw [hr] at h
        obtain rfl := Option.some.inj h
        simp [propsP_len hr]
/-- A text as a record: the fault; the record. -/
def readRE (l : List UInt8) : Int := if l = [45] then 0 else match propsP (cutL 44 l) with | none => 2 | some r => recE r
def readRV (l : List UInt8) : List Prp := if l = [45] then [] else match propsP (cutL 44 l) with | none => [] | some r => if recE r = 0 then r else []
theorem name_no {s : ByteArray} (h : nameE s = 0) {c : UInt8} (hc : c.toNat < 97 ∨ 122 < c.toNat) : noB c s.data.toList := fun x hx e => by
  unfold nameE at h
  split at h
  · cases h
  · split at h
    · cases h
    · split at h
      · cases h
      · rename_i hn
        refine hn (List.any_eq_true.2 ⟨x, hx, ?_⟩)
        subst e
        unfold nameC
        rw [Bool.or_eq_true, decide_eq_true_eq, decide_eq_true_eq]
        rcases hc with hc | hc
        · left; omega
        · right; omega
theorem digits_no {c : UInt8} (hc : c.toNat < 48 ∨ 57 < c.toNat) (u : Nat) : noB c (Lib.decDigits u) := by
  induction u using Nat.strongRecOn with
  | ind u ih =>
    rw [Lib.decDigits]
    by_cases h : u < 10
    · rw [dif_pos h]; exact .cons (ofNat_ne h hc) .nil
    · rw [dif_neg h]; exact (ih (u / 10) (by omega)).append (.cons (ofNat_ne (by omega) hc) .nil)
theorem itoa_no {c : UInt8} (hc : c.toNat < 45 ∨ 57 < c.toNat) (n : Int) : noB c (Lib.itoa n) := by
  rcases itoa_cases n with ⟨u, _, e⟩ | ⟨u, _, _, e⟩
  · rw [e]; exact digits_no (by omega) u
  · rw [e]
    refine .cons (fun h => ?_) (digits_no (by omega) u)
    subst h
    have : (45 : UInt8).toNat = 45 := rfl
    omega
theorem scan_show {c : UInt8} (hc : c.toNat < 39 ∨ 39 < c.toNat ∧ c.toNat < 45 ∨ 122 < c.toNat) {v : Val} (h : valE v = 0) : scanQ c false (showL v) = some false := by
  have h39 : (39 : UInt8).toNat = 39 := rfl
  unfold showL
  rcases val_parts h with ⟨h1, _⟩ | ⟨h1, _⟩ | ⟨h1, _⟩
  · rw [if_pos h1]
    exact scanQ_plain (itoa_no (by omega) _) (itoa_no (by omega) _)
  · rw [if_neg (by omega), if_pos h1]
    have hl : ∀ l : List UInt8, l.all (fun x => decide (97 ≤ x.toNat ∧ x.toNat ≤ 122)) = true → scanQ c false l = some false := fun l hl => by
      refine scanQ_plain (fun x hx e => ?_) (fun x hx e => ?_)
      · have := of_decide_eq_true (List.all_eq_true.1 hl x hx)
        subst e; omega
      · have := of_decide_eq_true (List.all_eq_true.1 hl x hx)
        subst e; omega
    split
    · exact hl _ (by decide)
    · exact hl _ (by decide)
  · rw [if_neg (by omega), if_neg (by omega)]
    rw [scanQ_cons, if_pos rfl, scanQ_append]
    show ((scanQ c true (dbl v.s.data.toList)).bind fun q' => scanQ c q' [39]) = _
    rw [scanQ_dbl]; rfl
theorem scan_prp {p : Prp} (h : prpE p = 0) : scanQ 44 false (prpT p) = some false := by
  unfold prpT
  rw [scanQ_append, scanQ_plain (name_no (prp_parts h).1 (by decide)) (name_no (prp_parts h).1 (by decide))]
  show scanQ 44 false (61 :: showL p.v) = _
  rw [scanQ_cons, if_neg (by decide), if_neg (by decide)]
  exact scan_show (.inr (.inl ⟨by decide, by decide⟩)) (prp_parts h).2
theorem piece_prp {p : Prp} (h : prpE p = 0) : pieceP (prpT p) = some p := by
  unfold pieceP prpT
  rw [cut_sign (name_no (prp_parts h).1 (by decide))]
  obtain ⟨h1, h2⟩ := read_show (prp_parts h).2
  show (if true = true ∧ readE (showL p.v) = 0 then some (⟨bs p.name.data.toList, readV (showL p.v)⟩ : Prp) else none) = _
  rw [if_pos ⟨rfl, h1⟩, h2, bs_of]
theorem props_rec : ∀ {r : List Prp}, (∀ p ∈ r, prpE p = 0) → propsP (r.map prpT) = some r
  | [], _ => rfl
  | p :: r, h => by
    rw [List.map_cons, propsP_cons, piece_prp (h p (by simp)), props_rec fun q hq => h q (List.mem_cons_of_mem _ hq)]
theorem prpT_ne (p : Prp) (l : List UInt8) : prpT p ++ l ≠ [45] := fun h => by
  have := congrArg (61 ∈ ·) h
  unfold prpT at this
  simp at this
theorem recT_ne {r : List Prp} (h : r ≠ []) : recT r ≠ [45] := by
  unfold recT
  cases r with
  | nil => exact absurd rfl h
  | cons p r =>
    rw [if_neg (by simp), List.map_cons]
    cases r with
    | nil => rw [List.map_nil, join_one]; have := prpT_ne p []; rwa [List.append_nil] at this
    | cons q r => rw [List.map_cons, join_two]; exact prpT_ne p _
/-- What is written is read as it was. -/
theorem read_rec {r : List Prp} (h : recE r = 0) : readRE (recT r) = 0 ∧ readRV (recT r) = r := by
  cases r with
  | nil => exact ⟨rfl, rfl⟩
  | cons p r =>
    have hp := (rec_ok h).2.1
    have hc : propsP (cutL 44 (recT (p :: r))) = some (p :: r) := by
      unfold recT
      rw [if_neg (by simp), cutF_join (by decide) _ (by simp), props_rec hp]
      intro x hx
      obtain ⟨q, hq, rfl⟩ := List.mem_map.1 hx
      exact scan_prp (hp q hq)
    have hne := recT_ne (r := p :: r) (by simp)
    unfold readRE readRV
    rw [if_neg hne, if_neg hne, hc]
    refine ⟨h, ?_⟩
    show (if recE (p :: r) = 0 then p :: r else []) = _
    rw [if_pos h]
theorem piece_text {x : List UInt8} {p : Prp} (h : pieceP x = some p) : prpT p = x := by
  unfold pieceP at h
  rcases cut_cases 61 x with ⟨hc, _⟩ | ⟨a, r, rfl, _, hc⟩
  · rw [hc] at h; simp at h
  · rw [hc] at h
    split at h
    · rename_i hh
      obtain rfl := Option.some.inj h
      have := (show_read hh.2).2
      unfold prpT
      show (bs a).data.toList ++ 61 :: showL (readV r) = _
      rw [bs_list, this]
    · cases h
theorem props_text : ∀ {xs : List (List UInt8)} {r : List Prp}, propsP xs = some r → r.map prpT = xs
  | [], r, h => by obtain rfl := Option.some.inj h; rfl
  | x :: xs, r, h => by
    rw [propsP_cons] at h
    cases hp : pieceP x with
    | none => rw [hp] at h; cases h
    | some p =>
      rw [hp] at h
      cases hr : propsP xs with
      | none => rw [hr] at h; cases h
      | some u =>
        rw [hr] at h
        obtain rfl := Option.some.inj h
        rw [List.map_cons, piece_text hp, props_text hr]
/-- What is read is written as it was. -/
theorem rec_read {l : List UInt8} (h : readRE l = 0) : recE (readRV l) = 0 ∧ recT (readRV l) = l := by
  by_cases h1 : l = [45]
  · subst h1; exact ⟨rfl, rfl⟩
  unfold readRE at h
  unfold readRV
  rw [if_neg h1] at h ⊢
  cases hp : propsP (cutL 44 l) with
  | none => rw [hp] at h; cases h
  | some r =>
    rw [hp] at h
    have h : recE r = 0 := h
    show recE (if recE r = 0 then r else []) = 0 ∧ recT (if recE r = 0 then r else []) = l
    rw [if_pos h]
    refine ⟨h, ?_⟩
    have hl := propsP_len hp
    have hne := cutF_ne 44 l false []
    have : 0 < (cutL 44 l).length := by
      unfold cutL
      cases hq : cutF 44 false [] l with
      | nil => exact absurd hq hne
      | cons _ _ => simp
    unfold recT
    rw [if_neg (by omega), props_text hp]
    unfold cutL
    rw [cutF_whole]; rfl

def nodeW : List UInt8 := [110, 111, 100, 101]
def tieW : List UInt8 := [116, 105, 101]
/-- A node, a tie of what stands behind its word. -/
def readNodL (l : List UInt8) : Option Nod := match Lib.splitN l [32] 3 with
  | [a, b, c] => if b = [] then none else match numL a 4 with
    | none => none
    | some n => if readRE c = 0 then some ⟨n, bs b, readRV c⟩ else none
  | _ => none
def readTieL (l : List UInt8) : Option Tie := match Lib.split l [32] with
  | [a, b, c] => if a = [] then none else match numL b 4, numL c 4 with
    | some x, some y => some ⟨bs a, x, y⟩
    | _, _ => none
  | _ => none
/-- A line more. -/
def lineT (g : Grf) (x : List UInt8) : Option Grf :=
  if Lib.hasSuffix x [10] = true then
    (if (Lib.cut (Lib.trimSuffix x [10]) [32]).1 = nodeW ∧ g.ties.length = 0 then (readNodL (Lib.cut (Lib.trimSuffix x [10]) [32]).2.1).map fun n => ⟨g.nodes ++ [n], g.ties⟩
     else if (Lib.cut (Lib.trimSuffix x [10]) [32]).1 = tieW then (readTieL (Lib.cut (Lib.trimSuffix x [10]) [32]).2.1).map fun t => ⟨g.nodes, g.ties ++ [t]⟩
     else none)
  else none
/-- Lines, one by one: the graph, or the number of the line that is wrong. -/
def runT (g : Grf) (n : Nat) : List (List UInt8) → Except Nat Grf
  | [] => .ok g
  | x :: xs => match lineT g x with
    | none => .error n
    | some g' => runT g' (n + 1) xs
open Go Go.Shelf Go.RowKit

-- written by shelflay.py for the seat YtmbeeaohidgfgaaGreatDoor
def cutLay_ren : Go.Shelf.Ren := ⟨fun | 145 => 27 | 220 => 55 | 219 => 85 | 217 => 94 | 225 => 113 | 224 => 114 | 267 => 115 | 266 => 124 | 314 => 137 | n => n, fun | 9 => 9 | 4 => 4 | 59 => 79 | 3 => 3 | 5 => 5 | 46 => 142 | 146 => 205 | 51 => 204 | 20 => 20 | n => n, fun | 1 => 2 | n => n⟩
theorem cutLay : Go.Proofs.Lays.n145 Tryz.prog cutLay_ren := {
  mixed := by kernel_rfl,
  f145 := Tryz.func27.trans (congrArg some (by kernel_rfl)),
  f217 := Tryz.func94.trans (congrArg some (by kernel_rfl)),
  f219 := Tryz.func85.trans (congrArg some (by kernel_rfl)),
  f220 := Tryz.func55.trans (congrArg some (by kernel_rfl)),
  f224 := Tryz.func114.trans (congrArg some (by kernel_rfl)),
  f225 := Tryz.func113.trans (congrArg some (by kernel_rfl)),
  f266 := Tryz.func124.trans (congrArg some (by kernel_rfl)),
  f267 := Tryz.func115.trans (congrArg some (by kernel_rfl)),
  f314 := Tryz.func137.trans (congrArg some (by kernel_rfl)),
  t3 := Tryz.underlying3,
  a3 := Tryz.isAgg3,
  z3 := Tryz.sizeOf3,
  v3 := Tryz.zeroValue3,
  t4 := Tryz.underlying4,
  a4 := Tryz.isAgg4,
  z4 := Tryz.sizeOf4,
  v4 := Tryz.zeroValue4,
  t5 := Tryz.underlying5,
  a5 := Tryz.isAgg5,
  z5 := Tryz.sizeOf5,
  v5 := Tryz.zeroValue5,
  t9 := Tryz.underlying9,
  a9 := Tryz.isAgg9,
  z9 := Tryz.sizeOf9,
  v9 := Tryz.zeroValue9,
  t46 := Tryz.underlying142,
  a46 := Tryz.isAgg142,
  z46 := Tryz.sizeOf142,
  v46 := Tryz.zeroValue142,
  t51 := Tryz.underlying204,
  a51 := Tryz.isAgg204,
  z51 := Tryz.sizeOf204,
  v51 := Tryz.zeroValue204,
  t59 := Tryz.underlying79,
  a59 := Tryz.isAgg79,
  z59 := Tryz.sizeOf79,
  v59 := Tryz.zeroValue79,
  t146 := Tryz.underlying205,
  a146 := Tryz.isAgg205,
  z146 := Tryz.sizeOf205,
  v146 := Tryz.zeroValue205,
  g1 := by kernel_rfl }
-- written by shelflay.py for the seat YtmbeeaohidgfgaaGreatDoor
-- written by shelflay.py for the seat YtmbeeaohidgfgaaGreatDoor
-- written by shelflay.py for the seat YtmbeeaohidgfgaaGreatDoor
-- written by shelflay.py for the seat YtmbeeaohidgfgaaGreatDoor
theorem len_size (s : ByteArray) : s.data.toList.length = s.size := by rw [Array.length_toList]; rfl
theorem tx_cut (s : ByteArray) (c : UInt8) (w : World) (h : TxP w) (hs : s.size < 4294967281) :
    Calls Tryz.prog 27 #[.string s, .string ⟨#[c]⟩] w fun e w' => e = .returned (.tuple #[.string (bs (Lib.cut s.data.toList [c]).1), .string (bs (Lib.cut s.data.toList [c]).2.1), .bool (Lib.cut s.data.toList [c]).2.2]) ∧ Below w.heap.size w w' := by
  obtain ⟨m, hm⟩ := h.len
  refine (Any.strings_Cut cutLay s ⟨#[c]⟩ m w hs hm).mono fun e w' ⟨he, n, hw⟩ => ⟨he, ?_⟩
  rw [hw]
  exact below_drewN (Below.refl _ _) n

/-- A numeral that is not too long is read as it was written. -/
theorem atoi_back (n : Int) (h : (Lib.trimPrefix (Lib.itoa n) [45]).length ≤ 9) : Lib.atoiAll (Lib.itoa n) = .ok n := by
  refine atoi_itoa ?_
  rcases itoa_cases n with ⟨u, hu, e⟩ | ⟨u, h0, hu, e⟩
  · rw [e, digits_trim] at h
    rw [e]; omega
  · rw [e, minus_trim] at h
    rw [e, List.length_cons]; omega
theorem atoi_range {l : List UInt8} {v : Int} (h : Lib.atoiAll l = .ok v) : I64 v := by
  unfold Lib.atoiAll at h
  unfold I64
  split at h
  · cases h
  · rename_i c r
    simp only at h
    split at h
    · cases h
    · cases h
    · rename_i u hu
      split at h
      · cases h
      · rename_i h1
        split at h
        · cases h
        · rename_i h2
          injection h with h
          by_cases hn : c.toNat = 45
          · rw [if_pos hn] at h
            have : ¬ 9223372036854775808 < u := fun e => h2 ⟨hn, e⟩
            omega
          · rw [if_neg hn] at h
            have : ¬ 9223372036854775808 ≤ u := fun e => h1 ⟨hn, e⟩
            omega
/-- Whether Atoi's number is written so, and is short: the number that is read. -/
theorem int_of_atoi {l : List UInt8} {v : Int} (h : Lib.atoiAll l = .ok v) : intL9 l = if Lib.itoa v = l ∧ (Lib.trimPrefix l [45]).length ≤ 9 then some v else none := by
  split
  · rename_i hc; exact intL9_iff.2 hc
  · rename_i hc
    cases hq : intL9 l with
    | none => rfl
    | some n =>
      obtain ⟨e1, e2⟩ := intL9_iff.1 hq
      have h2 := atoi_back n (by rw [e1]; exact e2)
      rw [e1, h] at h2
      injection h2 with h2
      subst h2
      exact absurd ⟨e1, e2⟩ hc
theorem int_of_bad {l : List UInt8} (h : ∀ v, Lib.atoiAll l ≠ .ok v) : intL9 l = none := by
  cases hq : intL9 l with
  | none => rfl
  | some n =>
    obtain ⟨e1, e2⟩ := intL9_iff.1 hq
    have h2 := atoi_back n (by rw [e1]; exact e2)
    rw [e1] at h2
    exact absurd h2 (h n)
open Go Go.RowKit

theorem count_le2 {s : ByteArray} (c : UInt8) : Lib.countB s ⟨#[c]⟩ ≤ s.size + 1 := by
  have h := Lib.count_le s.data.toList [c]
  have e : s.data.toList.length = s.size := by rw [Array.length_toList]; rfl
  show Lib.count s.data.toList [c] ≤ _
  omega
/-- Each quote twice, by the library. -/
theorem doubled_any (s : ByteArray) (w : World) (h : TxP w) (hs : s.size ≤ 4294967280) :
    Calls Tryz.prog 53 #[.string s, .string ⟨#[39]⟩, .string ⟨#[39, 39]⟩] w fun e w' => e = .returned (.string (bs (dbl s.data.toList))) ∧ Below w.heap.size w w' := by
  have hc := count_le2 (s := s) 39
  have h1 : (⟨#[39, 39]⟩ : ByteArray).size = 2 := rfl
  have := tx_replace s ⟨#[39]⟩ ⟨#[39, 39]⟩ w h (by omega) (by decide) (by rw [h1]; omega)
  refine this.mono fun e w' ⟨he, hb⟩ => ⟨?_, hb⟩
  rw [he]
  show Ending.returned (.string (bs (Lib.replaceAll s.data.toList [39] [39, 39]))) = _
  rw [doubled]
theorem two_below (w : World) : Below w.heap.size w (w.alloc (.cells #[.string ⟨#[102, 97, 108, 115, 101]⟩, .string ⟨#[116, 114, 117, 101]⟩] 9)) := (Below.refl _ _).alloc (Nat.le_refl _) _
set_option maxHeartbeats 1000000 in
theorem vprint_any (v : Val) (hv : v.ok) (w : World) (hT : TxP w) :
    Calls Tryz.prog 24 #[.agg #[.int .i64 v.ty, .int .i64 v.n, .string v.s]] w fun e w' => e = .returned (.tuple #[.string (bs (if valE v = 0 then showL v else [])), errV (valE v)]) ∧ Below w.heap.size w w' := by
  obtain ⟨ty, n, s⟩ := v
  have hb0 : Below w.heap.size w (w.alloc (.cells #[.int .i64 ty, .int .i64 n, .string s] 25)) := (Below.refl _ _).alloc (Nat.le_refl _) _
  obtain ⟨x0, x1, x2⟩ := cell_box3 w (.int .i64 ty) (.int .i64 n) (.string s) 25
  have hx := check_any ⟨ty, n, s⟩ hv (w.alloc (.cells #[.int .i64 ty, .int .i64 n, .string s] 25))
  have HT := Lib.hid (hT.below hb0)
  obtain ⟨R, hR⟩ : ∃ R, R = (if valE ⟨ty, n, s⟩ = 0 then showL ⟨ty, n, s⟩ else []) := ⟨_, rfl⟩
  rw [← hR]
  have HR := Lib.hid hR
  have HP : Hid (valE ⟨ty, n, s⟩ = 0 → (ty = 1 ∧ -1000000 ≤ n ∧ n ≤ 1000000 ∧ s = .empty) ∨ (ty = 2 ∧ (n = 0 ∨ n = 1) ∧ s = .empty) ∨ (ty = 3 ∧ n = 0 ∧ s.size ≤ 20 ∧ s.data.toList.any strC = false)) := val_parts
  generalize valE ⟨ty, n, s⟩ = ee at *
  clear hT hR hv
  go_enter Tryz.func24, Tryz.ntmps24
  go_wp2_with fail
  generalize w.alloc (.cells #[.int .i64 ty, .int .i64 n, .string s] 25) = W0 at *
  refine hx.mono ?_
  clear hx
  rintro e w1 ⟨rfl, hb1⟩
  have hB1 := hb0.trans (hb1.mono hb0.size)
  have x0 := cell_below hb1 x0
  have x1 := cell_below hb1 x1
  have x2 := cell_below hb1 x2
  have HT1 := Lib.hid (HT.out.below hb1)
  by_cases hz : ee = 0
  case neg =>
    have HE : Hid (R = []) := by unfold Hid; rw [HR.out, if_neg hz]
    rw [errV_some hz]
    clear HR HP
    go_wp2_with fail
    go_ret2
    exact ⟨by rw [HE.out, errV_some hz]; rfl, hB1⟩
  rw [errV_zero hz]
  have HE : Hid (R = showL ⟨ty, n, s⟩) := by unfold Hid; rw [HR.out, if_pos hz]
  have HZ := Lib.hid hz
  rcases HP.out hz with ⟨rfl, h1, h2, rfl⟩ | ⟨rfl, h1, rfl⟩ | ⟨rfl, rfl, h1, _⟩
  · have hR : Hid (R = Lib.itoa n) := HE
    have hx := tx_itoa n (by omega) (by omega) w1 HT1.out.tab
    clear hz HR HP HE
    go_wp2_with fail
    refine hx.mono ?_
    clear hx
    rintro e w2 ⟨rfl, hb2⟩
    have hB2 := hB1.trans (hb2.mono hB1.size)
    go_wp2_with fail
    go_ret2
    exact ⟨by rw [hR.out, errV_zero HZ.out]; rfl, hB2⟩
  · rcases h1 with rfl | rfl
    · have hR : Hid (R = falseL) := HE
      have y1 := cell_below (two_below w1) x1
      clear hz HR HP HE x1
      go_wp2_with fail
      go_ret2
      exact ⟨by rw [hR.out, errV_zero HZ.out]; rfl, hB1.alloc hB1.size _⟩
    · have hR : Hid (R = trueL) := HE
      have y1 := cell_below (two_below w1) x1
      clear hz HR HP HE x1
      go_wp2_with fail
      go_ret2
      exact ⟨by rw [hR.out, errV_zero HZ.out]; rfl, hB1.alloc hB1.size _⟩
  · have hR : Hid (R = 39 :: (dbl s.data.toList ++ [39])) := HE.out.trans (show_text rfl)
    have hx := doubled_any s w1 HT1.out (by omega)
    have hl := dbl_len2 s.data.toList
    have hle : s.data.toList.length = s.size := by rw [Array.length_toList]; rfl
    have hsz : (bs (dbl s.data.toList)).size ≤ 40 := by rw [bs_size]; omega
    have hXE : Hid ((⟨#[39]⟩ ++ bs (dbl s.data.toList) ++ ⟨#[39]⟩ : ByteArray) = bs (39 :: (dbl s.data.toList ++ [39]))) := by
      unfold Hid
      show bs [39] ++ bs (dbl s.data.toList) ++ bs [39] = _
      rw [bs_append, bs_append]; simp
    generalize bs (dbl s.data.toList) = D at *
    have hc1 : ¬ 9223372036854775807 < 1 + D.size := by omega
    have hc2 : ¬ 9223372036854775807 < 1 + D.size + 1 := by omega
    clear hz HR HP HE hl hle
    go_wp2_with fail
    refine hx.mono ?_
    clear hx
    rintro e w2 ⟨rfl, hb2⟩
    have hB2 := hB1.trans (hb2.mono hB1.size)
    go_wp2_with fail
    go_ret2
    exact ⟨by rw [hR.out, errV_zero HZ.out, ← hXE.out]; rfl, hB2⟩
end Go.Proofs.YtmbeeaohidgfgaaGreatDoor
