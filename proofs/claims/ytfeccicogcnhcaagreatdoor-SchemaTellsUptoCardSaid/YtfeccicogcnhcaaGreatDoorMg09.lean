/- Parts: TxW, TxM, RcA, LinA, VpP, VpA, VpT, VpB, RcB, NumA, TrA, TrB, TxI, TxJ, TxK, TxN. -/
import Derived.Test.YtfeccicogcnhcaaGreatDoorMg08
import Derived.Test.YtfeccicogcnhcaaGreatDoorMg03
import Derived.Test.YtfeccicogcnhcaaGreatDoorMg04
import Derived.Test.YtfeccicogcnhcaaGreatDoorMg05
import Derived.Test.YtfeccicogcnhcaaGreatDoorMg02
import Derived.Shelf.Strings.Cut
import Derived.Shelf.Strings.Split
import Derived.Shelf.Small.Wraps
import Derived.Shelf.Small.Strs
import Derived.RegionIn
import Derived.Lib.IndexLaws
import Derived.IntWalk
import Derived.Lib.AtoiTie
import Derived.Deep.RegionHeld3
import Derived.Test.YtfeccicogcnhcaaGreatDoorMg07
import Derived.Deep.DeepCutAuto
import Derived.BigRegion
/- Words in a row of the call's own, and what strings.Join makes of them. -/
namespace Go.Proofs.YtfeccicogcnhcaaGreatDoor
open Go Go.RowKit

theorem map_bs (xs : List (List UInt8)) : (xs.map bs).map (·.data.toList) = xs := by
  rw [List.map_map]
  conv => rhs; rw [← List.map_id xs]
  exact List.map_congr_left fun x _ => bs_list x
theorem list_bs (xs : List ByteArray) : (xs.map (·.data.toList)).map bs = xs := by
  rw [List.map_map]
  conv => rhs; rw [← List.map_id xs]
  exact List.map_congr_left fun x _ => bs_of x
/-- Words, in a row of the call's own. -/
def wv (xs : List (List UInt8)) : List Value := xs.map fun l => Value.string (bs l)
theorem wv_at {xs : List (List UInt8)} {j : Nat} {x : ByteArray} (h : (xs.map bs)[j]? = some x) : (wv xs)[j]? = some (.string x) := by
  rw [List.getElem?_map] at h
  obtain ⟨l, hl, rfl⟩ := Option.map_eq_some_iff.1 h
  unfold wv
  rw [List.getElem?_map, hl]; rfl
/-- What Join makes of them. -/
theorem join_own (B : Nat) (w : World) (bk o c : Nat) (xs : List (List UInt8)) (sep : List UInt8) (h : Own w B 9 1 (.slice (some ⟨bk, o, none⟩) xs.length c) xs.length (wv xs)) (hl : xs.length ≤ 1000) (hc : xs.length ≤ c) (hj : (Lib.join xs sep).length ≤ 1000000) :
    Calls Tryz.prog 25 #[.slice (some ⟨bk, o, none⟩) xs.length c, .string (bs sep)] w fun e w' => e = .returned (.string (bs (Lib.join xs sep))) ∧ Below w.heap.size w w' := by
  have h1 := tx_join bk o c (xs.map bs) (bs sep) w (fun j x hj => h.cell rfl (wv_at hj)) (h.lt bk rfl).2 (by rw [List.length_map]; omega) (by rw [List.length_map]; exact hc) (by rw [map_bs, bs_list]; omega)
  rw [map_bs, bs_list, List.length_map] at h1
  exact h1
theorem join_sl (w : World) (A : Option Addr) (c : Nat) (xs : List ByteArray) (sep : List UInt8) (h : Sl strL w (.slice A xs.length c) xs) (h0 : 0 < xs.length) (hl : xs.length ≤ 1000) (hc : xs.length ≤ c) (hj : (Lib.join (xs.map (·.data.toList)) sep).length ≤ 1000000) :
    Calls Tryz.prog 25 #[.slice A xs.length c, .string (bs sep)] w fun e w' => e = .returned (.string (bs (Lib.join (xs.map (·.data.toList)) sep))) ∧ Below w.heap.size w w' := by
  obtain ⟨b, o, rfl, hall⟩ := str_all h h0
  have hb : b < w.heap.size := by
    obtain ⟨d, hd⟩ : ∃ d, xs[0]? = some d := ⟨_, List.getElem?_eq_getElem h0⟩
    exact World.block_lt_of_cell? _ _ (hall 0 d hd).2
  have h1 := tx_join b o c xs (bs sep) w (fun j x hj => (hall j x hj).2) hb (by omega) hc (by rw [bs_list]; omega)
  rw [bs_list] at h1
  exact h1
theorem two_words (w : World) (a b : ByteArray) : Own (w.alloc (.cells #[.string a, .string b] 9)) w.heap.size 9 1 (.slice (some ⟨w.heap.size, 0, none⟩) 2 2) 2 [.string a, .string b] :=
  own_of_block (cs := [.string a, .string b]) (heap_alloc_new _ _) (Nat.le_refl _) rfl (by unfold maxLen; omega)
open Go Go.Shelf Go.RowKit

-- written by shelflay.py for the seat YtfeccicogcnhcaaGreatDoor
def cutLay_ren : Go.Shelf.Ren := ⟨fun | 145 => 87 | 220 => 111 | 219 => 109 | 217 => 80 | 225 => 124 | 224 => 125 | 267 => 126 | 266 => 105 | 314 => 140 | n => n, fun | 9 => 9 | 4 => 4 | 59 => 134 | 3 => 3 | 5 => 5 | 46 => 171 | 146 => 195 | 51 => 176 | 20 => 20 | n => n, fun | 1 => 2 | n => n⟩
theorem cutLay : Go.Proofs.Lays.n145 Tryz.prog cutLay_ren := {
  mixed := by kernel_rfl,
  f145 := Tryz.func87.trans (congrArg some (by kernel_rfl)),
  f217 := Tryz.func80.trans (congrArg some (by kernel_rfl)),
  f219 := Tryz.func109.trans (congrArg some (by kernel_rfl)),
  f220 := Tryz.func111.trans (congrArg some (by kernel_rfl)),
  f224 := Tryz.func125.trans (congrArg some (by kernel_rfl)),
  f225 := Tryz.func124.trans (congrArg some (by kernel_rfl)),
  f266 := Tryz.func105.trans (congrArg some (by kernel_rfl)),
  f267 := Tryz.func126.trans (congrArg some (by kernel_rfl)),
  f314 := Tryz.func140.trans (congrArg some (by kernel_rfl)),
  t3 := Tryz.underlying3,
  a3 := Tryz.isAgg3,
  z3 := Tryz.sizeOf3,
  v3 := Tryz.zeroValue3,
  t4 := Tryz.underlying4,
  a4 := Tryz.isAgg4,
  z4 := Tryz.sizeOf4,
  v4 := Tryz.zeroValue4,
  t5 := Tryz.underlying5,
  a5 := Tryz.isAgg5,
  z5 := Tryz.sizeOf5,
  v5 := Tryz.zeroValue5,
  t9 := Tryz.underlying9,
  a9 := Tryz.isAgg9,
  z9 := Tryz.sizeOf9,
  v9 := Tryz.zeroValue9,
  t46 := Tryz.underlying171,
  a46 := Tryz.isAgg171,
  z46 := Tryz.sizeOf171,
  v46 := Tryz.zeroValue171,
  t51 := Tryz.underlying176,
  a51 := Tryz.isAgg176,
  z51 := Tryz.sizeOf176,
  v51 := Tryz.zeroValue176,
  t59 := Tryz.underlying134,
  a59 := Tryz.isAgg134,
  z59 := Tryz.sizeOf134,
  v59 := Tryz.zeroValue134,
  t146 := Tryz.underlying195,
  a146 := Tryz.isAgg195,
  z146 := Tryz.sizeOf195,
  v146 := Tryz.zeroValue195,
  g1 := by kernel_rfl }
-- written by shelflay.py for the seat YtfeccicogcnhcaaGreatDoor
def cutSLay_ren : Go.Shelf.Ren := ⟨fun | 104 => 34 | 211 => 54 | 207 => 81 | n => n, fun | 9 => 9 | 4 => 4 | 24 => 81 | 3 => 3 | 20 => 20 | n => n, fun | n => n⟩
theorem cutSLay : Go.Proofs.Lays.n104 Tryz.prog cutSLay_ren := {
  mixed := by kernel_rfl,
  f104 := Tryz.func34.trans (congrArg some (by kernel_rfl)),
  f207 := Tryz.func81.trans (congrArg some (by kernel_rfl)),
  f211 := Tryz.func54.trans (congrArg some (by kernel_rfl)),
  t3 := Tryz.underlying3,
  a3 := Tryz.isAgg3,
  z3 := Tryz.sizeOf3,
  v3 := Tryz.zeroValue3,
  t4 := Tryz.underlying4,
  a4 := Tryz.isAgg4,
  z4 := Tryz.sizeOf4,
  v4 := Tryz.zeroValue4,
  t9 := Tryz.underlying9,
  a9 := Tryz.isAgg9,
  z9 := Tryz.sizeOf9,
  v9 := Tryz.zeroValue9,
  t24 := Tryz.underlying81,
  a24 := Tryz.isAgg81,
  z24 := Tryz.sizeOf81,
  v24 := Tryz.zeroValue81 }
-- written by shelflay.py for the seat YtfeccicogcnhcaaGreatDoor
def splitLay_ren : Go.Shelf.Ren := ⟨fun | 146 => 35 | 221 => 55 | 268 => 82 | 138 => 83 | 143 => 84 | 195 => 106 | 197 => 107 | 218 => 108 | 219 => 109 | 260 => 123 | 217 => 80 | 225 => 124 | 224 => 125 | 267 => 126 | 266 => 105 | 314 => 140 | n => n, fun | 9 => 9 | 31 => 45 | 3 => 3 | 4 => 4 | 0 => 0 | 105 => 167 | 21 => 21 | 5 => 5 | 46 => 171 | 119 => 191 | 139 => 194 | 138 => 193 | 146 => 195 | 51 => 176 | 20 => 20 | n => n, fun | 1 => 2 | 3 => 4 | 4 => 5 | n => n⟩
theorem splitLay : Go.Proofs.Lays.n146 Tryz.prog splitLay_ren := {
  mixed := by kernel_rfl,
  f138 := Tryz.func83.trans (congrArg some (by kernel_rfl)),
  f143 := Tryz.func84.trans (congrArg some (by kernel_rfl)),
  f146 := Tryz.func35.trans (congrArg some (by kernel_rfl)),
  f195 := Tryz.func106.trans (congrArg some (by kernel_rfl)),
  f197 := Tryz.func107.trans (congrArg some (by kernel_rfl)),
  f217 := Tryz.func80.trans (congrArg some (by kernel_rfl)),
  f218 := Tryz.func108.trans (congrArg some (by kernel_rfl)),
  f219 := Tryz.func109.trans (congrArg some (by kernel_rfl)),
  f221 := Tryz.func55.trans (congrArg some (by kernel_rfl)),
  f224 := Tryz.func125.trans (congrArg some (by kernel_rfl)),
  f225 := Tryz.func124.trans (congrArg some (by kernel_rfl)),
  f260 := Tryz.func123.trans (congrArg some (by kernel_rfl)),
  f266 := Tryz.func105.trans (congrArg some (by kernel_rfl)),
  f267 := Tryz.func126.trans (congrArg some (by kernel_rfl)),
  f268 := Tryz.func82.trans (congrArg some (by kernel_rfl)),
  f314 := Tryz.func140.trans (congrArg some (by kernel_rfl)),
  t0 := Tryz.underlying0,
  a0 := Tryz.isAgg0,
  z0 := Tryz.sizeOf0,
  v0 := Tryz.zeroValue0,
  t3 := Tryz.underlying3,
  a3 := Tryz.isAgg3,
  z3 := Tryz.sizeOf3,
  v3 := Tryz.zeroValue3,
  t4 := Tryz.underlying4,
  a4 := Tryz.isAgg4,
  z4 := Tryz.sizeOf4,
  v4 := Tryz.zeroValue4,
  t5 := Tryz.underlying5,
  a5 := Tryz.isAgg5,
  z5 := Tryz.sizeOf5,
  v5 := Tryz.zeroValue5,
  t9 := Tryz.underlying9,
  a9 := Tryz.isAgg9,
  z9 := Tryz.sizeOf9,
  v9 := Tryz.zeroValue9,
  t21 := Tryz.underlying21,
  a21 := Tryz.isAgg21,
  z21 := Tryz.sizeOf21,
  v21 := Tryz.zeroValue21,
  t31 := Tryz.underlying45,
  a31 := Tryz.isAgg45,
  z31 := Tryz.sizeOf45,
  v31 := Tryz.zeroValue45,
  t46 := Tryz.underlying171,
  a46 := Tryz.isAgg171,
  z46 := Tryz.sizeOf171,
  v46 := Tryz.zeroValue171,
  t51 := Tryz.underlying176,
  a51 := Tryz.isAgg176,
  z51 := Tryz.sizeOf176,
  v51 := Tryz.zeroValue176,
  t105 := Tryz.underlying167,
  a105 := Tryz.isAgg167,
  z105 := Tryz.sizeOf167,
  v105 := Tryz.zeroValue167,
  t119 := Tryz.underlying191,
  a119 := Tryz.isAgg191,
  z119 := Tryz.sizeOf191,
  t138 := Tryz.underlying193,
  a138 := Tryz.isAgg193,
  z138 := Tryz.sizeOf193,
  v138 := Tryz.zeroValue193,
  t139 := Tryz.underlying194,
  a139 := Tryz.isAgg194,
  z139 := Tryz.sizeOf194,
  v139 := Tryz.zeroValue194,
  t146 := Tryz.underlying195,
  a146 := Tryz.isAgg195,
  z146 := Tryz.sizeOf195,
  v146 := Tryz.zeroValue195,
  g1 := by kernel_rfl,
  g3 := by kernel_rfl,
  g4 := by kernel_rfl }
-- written by shelflay.py for the seat YtfeccicogcnhcaaGreatDoor
def idxBLay_ren : Go.Shelf.Ren := ⟨fun | 137 => 53 | 217 => 80 | 266 => 105 | n => n, fun | 9 => 9 | 5 => 5 | 3 => 3 | 20 => 20 | n => n, fun | n => n⟩
theorem idxBLay : Go.Proofs.Lays.n137 Tryz.prog idxBLay_ren := {
  mixed := by kernel_rfl,
  f137 := Tryz.func53.trans (congrArg some (by kernel_rfl)),
  f217 := Tryz.func80.trans (congrArg some (by kernel_rfl)),
  f266 := Tryz.func105.trans (congrArg some (by kernel_rfl)),
  t3 := Tryz.underlying3,
  a3 := Tryz.isAgg3,
  z3 := Tryz.sizeOf3,
  v3 := Tryz.zeroValue3,
  t5 := Tryz.underlying5,
  a5 := Tryz.isAgg5,
  z5 := Tryz.sizeOf5,
  v5 := Tryz.zeroValue5,
  t9 := Tryz.underlying9,
  a9 := Tryz.isAgg9,
  z9 := Tryz.sizeOf9,
  v9 := Tryz.zeroValue9 }

theorem len_size (s : ByteArray) : s.data.toList.length = s.size := by rw [Array.length_toList]; rfl
theorem tx_cut (s : ByteArray) (c : UInt8) (w : World) (h : TxP w) (hs : s.size < 4294967281) :
    Calls Tryz.prog 87 #[.string s, .string ⟨#[c]⟩] w fun e w' => e = .returned (.tuple #[.string (bs (Lib.cut s.data.toList [c]).1), .string (bs (Lib.cut s.data.toList [c]).2.1), .bool (Lib.cut s.data.toList [c]).2.2]) ∧ Below w.heap.size w w' := by
  obtain ⟨m, hm⟩ := h.len
  refine (Any.strings_Cut cutLay s ⟨#[c]⟩ m w hs hm).mono fun e w' ⟨he, n, hw⟩ => ⟨he, ?_⟩
  rw [hw]
  exact Go.below_drewN (Below.refl _ _) n
theorem tx_cutSuffix (s : ByteArray) (c : UInt8) (w : World) (hs : s.size ≤ 9223372036854775807) :
    Calls Tryz.prog 34 #[.string s, .string ⟨#[c]⟩] w fun e w' => e = .returned (.tuple #[.string (bs (Lib.trimSuffix s.data.toList [c])), .bool (Lib.hasSuffix s.data.toList [c])]) ∧ w = w' :=
  (Any.strings_CutSuffix cutSLay s ⟨#[c]⟩ w hs).mono fun _ _ ⟨he, hw⟩ => ⟨he, hw.symm⟩
theorem tx_idxByte (s : ByteArray) (c : Int) (w : World) :
    Calls Tryz.prog 53 #[.string s, .int .u8 c] w fun e w' => e = .returned (.int .i64 (Lib.indexByte s.data.toList c.toNat.toUInt8)) ∧ w = w' :=
  (Any.strings_IndexByte idxBLay s c w).mono fun _ _ ⟨he, hw⟩ => ⟨he, hw.symm⟩
theorem split_len (c : UInt8) : ∀ (n : Nat) (l : List UInt8), l.length ≤ n → (∀ x ∈ Lib.split l [c], x.length ≤ l.length) ∧ (Lib.split l [c]).length ≤ l.length + 1
  | n, l, hn => by
    rcases first_sign c l with h | ⟨a, r, rfl, h⟩
    · rw [split_no h]
      exact ⟨fun x hx => by rcases List.mem_singleton.1 hx with rfl; exact Nat.le_refl _, by simp⟩
    · cases n with
      | zero => simp at hn
      | succ n =>
        obtain ⟨i1, i2⟩ := split_len c n r (by simp at hn; omega)
        rw [split_sign h]
        refine ⟨fun x hx => ?_, ?_⟩
        · rcases List.mem_cons.1 hx with rfl | hx
          · simp
          · have := i1 x hx; simp; omega
        · simp only [List.length_cons, List.length_append]; omega

theorem take_more {l : List UInt8} {f k : Nat} {x : UInt8} (hf : f ≤ k) (hx : l[k]? = some x) : (l.drop f).take (k + 1 - f) = (l.drop f).take (k - f) ++ [x] := by
  have e : k + 1 - f = (k - f) + 1 := by omega
  rw [e, List.take_add_one, List.getElem?_drop]
  have e2 : f + (k - f) = k := by omega
  rw [e2, hx]; rfl
theorem drop_one {l : List UInt8} {k : Nat} {x : UInt8} (hx : l[k]? = some x) : l.drop k = x :: l.drop (k + 1) := by
  have hlt := (List.getElem?_eq_some_iff.1 hx).1
  rw [List.drop_eq_getElem_cons hlt]
  have := (List.getElem?_eq_some_iff.1 hx).2
  rw [this]
theorem ext_list (s : ByteArray) (f k : Nat) : s.extract f k = bs ((s.data.toList.drop f).take (k - f)) := by
  rw [← bs_of (s.extract f k), Lib.extract_data]
theorem flat_wv : ∀ xs : List (List UInt8), (xs.map bs).flatMap (fun s => [Value.string s]) = wv xs
  | [] => rfl
  | x :: xs => by
    have ih := flat_wv xs
    unfold wv at ih ⊢
    rw [List.map_cons, List.flatMap_cons, ih]; rfl
theorem own_words {w : World} {B : Nat} {v : Value} {xs : List (List UInt8)} (h : Own w B 9 1 v xs.length (wv xs)) (hl : ∀ x ∈ xs, x.length ≤ 1048576) : Sl strL w v (xs.map bs) := by
  have h2 : Own w B 9 1 v (xs.map bs).length ((xs.map bs).flatMap fun s => [.string s]) := by
    have e : (xs.map bs).flatMap (fun s => [Value.string s]) = wv xs := flat_wv xs
    rw [e, List.length_map]; exact h
  refine Own.flat (enc := fun s : ByteArray => [Value.string s]) (n := 1) (ok := Sm) (fun _ => rfl) (fun x hx => ?_) h2
  · obtain ⟨y, hy, rfl⟩ := List.mem_map.1 hx
    unfold Sm; rw [bs_size]; exact hl y hy
open Go Go.RowKit Go.Shelf

attribute [local go_sem] Oper.semAt_some
theorem idxByte_no {l : List UInt8} {c : UInt8} (h : noB c l) : Lib.indexByte l c = -1 := by
  rcases Int.lt_or_le (Lib.indexByte l c) 0 with h1 | h1
  · have := Lib.indexByte_ge l c; omega
  · obtain ⟨o, ho⟩ : ∃ o : Nat, Lib.indexByte l c = o := ⟨(Lib.indexByte l c).toNat, by omega⟩
    exact absurd rfl (h c (List.mem_of_getElem? (Lib.indexByte_some ho).1))
theorem idxByte_hit {c : UInt8} {a r : List UInt8} (h : noB c a) : Lib.indexByte (a ++ c :: r) c = a.length := by
  have hn : Lib.indexByte (a ++ c :: r) c ≠ -1 := fun e => Lib.indexByte_none e a.length (by simp)
  have hg := Lib.indexByte_ge (a ++ c :: r) c
  obtain ⟨o, ho⟩ : ∃ o : Nat, Lib.indexByte (a ++ c :: r) c = o := ⟨(Lib.indexByte (a ++ c :: r) c).toNat, by omega⟩
  obtain ⟨h1, h2⟩ := Lib.indexByte_some ho
  rw [ho]
  rcases Nat.lt_trichotomy o a.length with h3 | h3 | h3
  · rw [List.getElem?_append_left h3] at h1
    exact absurd rfl (h c (List.mem_of_getElem? h1))
  · rw [h3]
  · exact absurd (by simp) (h2 a.length h3)
/-- What the iterator does between the rounds: draws, and stores into its box. -/
def LStep (q : Nat) (X Y : World) : Prop := (∃ m, Y = X.drewN m) ∨ ∃ v m, Y = (X.setCell ⟨q, 0, none⟩ v).drewN m
/-- What a round keeps: the iterator's box, and what lay below n. -/
def LKeep (n q : Nat) (X Y : World) : Prop := Below n X Y ∧ Y.heap[q]? = X.heap[q]?
/-- How much text is left in the box. -/
def leftIn (q : Nat) (w : World) : Nat := match w.cell? ⟨q, 0, none⟩ with | some (.string s) => s.size | _ => 0
theorem left_of {q : Nat} {w : World} {s : ByteArray} {t : TypeId} (h : w.heap[q]? = some (.cells #[.string s] t (0, 0))) : leftIn q w = s.size := by
  unfold leftIn
  have : w.cell? ⟨q, 0, none⟩ = some (.string s) := block_cell h 0
  rw [this]
/-- A line that is not too long. -/
abbrev Ln := { x : List UInt8 // x.length ≤ 1048576 }
def lnL (pre : List Ln) : List (List UInt8) := pre.map fun x => x.1
theorem lnL_snoc (pre : List Ln) (x : Ln) : lnL (pre ++ [x]) = lnL pre ++ [x.1] := by unfold lnL; rw [List.map_append]; rfl
set_option maxRecDepth 100000 in
set_option maxHeartbeats 4000000 in
theorem lines1_in (n : Nat) (hn : 1 ≤ n) (B q : Nat) (_hq : B ≤ q) (l : List UInt8) (hl : l.length ≤ 1048576) (w : World) (hqw : w.heap[q]? = some (.cells #[.string (bs l)] 9 (0, 0))) (_hBw : B ≤ w.heap.size) :
    Stirs Fence.wide n Tryz.prog 52 #[.pointer (some ⟨q, 0, none⟩)] (fun x : Ln => #[.string (bs x.1)]) (LKeep B q) (LStep q) (fun xs => lnL xs = linesL l) (fun pre => lnL pre <+: linesL l) w := by
  intro lr J Jx W hW hJ hJx hY h0
  have hqW := (hW.block _ (Array.getElem?_eq_some_iff.1 hqw).1).trans hqw
  have HJ := Lib.hid hJ
  clear hW hqw
  refine callsIn_of_wp Tryz.func52 rfl trivial ?_ rfl
  simp only [Tryz.ntmps52, List.size_toArray, List.length_cons, List.length_nil, Nat.reduceAdd, Nat.reduceSub, Array.replicate_succ, Array.replicate_zero, List.push_toArray, List.append_toArray, List.nil_append, List.cons_append]
  gi_wp2
  gi_loopw [3, 4] (fun _ _ wr => ∃ (pre : List Ln) (rest : List UInt8), J pre wr ∧ wr.heap[q]? = some (.cells #[.string (bs rest)] 9 (0, 0)) ∧ Hid (lnL pre ++ linesL rest = linesL l) ∧ rest.length ≤ 1048576) (fun _ _ wr => leftIn q wr)
  case atStart => exact ⟨[], l, h0, hqW, rfl, hl⟩
  case round =>
    obtain ⟨pre, rest, hJs, hqr, HP, hrl⟩ := hrel
    have c0 := block_cell hqr 0
    have f0 := block_free hqr 0
    have hsz : (bs rest).size = rest.length := bs_size rest
    have HSZ := Lib.hid hsz
    by_cases he : rest = []
    · subst he
      have h0b : decide ((0 : Int) < ((bs ([] : List UInt8)).size : Int)) = false := rfl
      clear hsz
      gi_wp2
      go_end0
      have hp := HP.out
      rw [lines_nil, List.append_nil] at hp
      exact ⟨⟨_, rfl⟩, .inl ⟨_, hp, hJs⟩⟩
    · have hpos : (0 : Int) < ((bs rest).size : Int) := by
        rw [hsz]
        have : 0 < rest.length := List.length_pos_iff.2 he
        omega
      have hx := (callsIn_wide (n := n - 1)).2 (tx_idxByte (bs rest) 10 wr)
      rw [bs_list, show (10 : Int).toNat.toUInt8 = (10 : UInt8) from rfl] at hx
      clear hsz
      rcases first_sign 10 rest with hno | ⟨a, r, rfl, hno⟩
      · rw [idxByte_no hno] at hx
        have HL := Lib.hid (lines_no hno he)
        have hpos1 : (bs []).size < (bs rest).size := by rw [bs_size, bs_size]; exact List.length_pos_iff.2 he
        have HX : Hid (lnL (pre ++ [⟨rest, hrl⟩]) <+: linesL l) := by unfold Hid; rw [← HP.out, HL.out, lnL_snoc]; exact List.prefix_refl _
        obtain ⟨fn, tmps, assign, body, hy, hR⟩ := hY pre ⟨rest, hrl⟩ (wr.setCell ⟨q, 0, none⟩ (.string ⟨#[]⟩)) HX.out (HJ.out _ _ _ hJs (.inr ⟨_, 0, rfl⟩))
        have hq2 := setCell_block hqr 0 (.string ⟨#[]⟩)
        clear hno he
        gi_wp2_with (refine ⟨trivial, ?_⟩; gi_at_call 53; refine hx.mono ?_; rintro e w2 ⟨rfl, rfl⟩)
        refine hR.mono ?_
        rintro e W3 (⟨rfl, hJ3, hk3⟩ | ⟨rfl, hJx3⟩)
        · have hq3 : W3.heap[q]? = some (.cells #[.string (bs [])] 9 (0, 0)) := hk3.2.trans hq2
          clear hR hy hq2 c0 f0
          gi_wp2
          go_roundw
          case rel => exact ⟨pre ++ [⟨rest, hrl⟩], [], hJ3, hq3, by unfold Hid; rw [lines_nil, List.append_nil, ← HP.out, HL.out, lnL_snoc], Nat.zero_le _⟩
          case measure => rw [left_of hq3, left_of hqr]; exact hpos1
        · clear hR hy hq2 c0 f0
          gi_wp2
          refine bodyPost_ret (results_none rfl _ _ _) rfl ?_
          exact ⟨⟨_, rfl⟩, .inr ⟨_, HX.out, hJx3⟩⟩
      · rw [idxByte_hit hno] at hx
        have HL := Lib.hid (lines_sign (r := r) hno)
        have hal : (bs (a ++ 10 :: r)).size = a.length + 1 + r.length := by rw [bs_size]; simp; omega
        have hal1 : (a.length : Int) + 1 ≤ ((bs (a ++ 10 :: r)).size : Int) := by rw [hal]; omega
        have HAL := Lib.hid hal
        clear hno he hal
        gi_wp2_with (refine ⟨trivial, ?_⟩; gi_at_call 53; refine hx.mono ?_; rintro e w2 ⟨rfl, rfl⟩)
        have hrl2 : a.length + 1 + r.length ≤ 1048576 := by simp at hrl; omega
        have hwr : wrap64 ((a.length : Int) + 1) = (a.length : Int) + 1 := IntWalk.wrap64_in _ (by omega)
        have hw0 : (0 : Int) ≤ (a.length : Int) + 1 := by omega
        have hwn : ((a.length : Int) + 1).toNat = a.length + 1 := by omega
        gi_region
        have hE1 : (bs (a ++ 10 :: r)).extract 0 (a.length + 1) = bs (a ++ [10]) := by
          rw [ext_list, bs_list]
          have : a ++ 10 :: r = (a ++ [10]) ++ r := by simp
          rw [this, List.drop_zero, Nat.sub_zero, List.take_left' (by simp)]
        have hE2 : (bs (a ++ 10 :: r)).extract (a.length + 1) (bs (a ++ 10 :: r)).size = bs r := by
          rw [ext_list, bs_list, drop_behind, HAL.out]
          rw [List.take_of_length_le (by omega)]
        rw [hE1, hE2]
        clear hE1 hE2 hwr hwn
        have hal2 : (a ++ [10]).length ≤ 1048576 := by simp; omega
        have HX : Hid (lnL (pre ++ [⟨a ++ [10], hal2⟩]) <+: linesL l) := by unfold Hid; rw [← HP.out, HL.out, lnL_snoc]; exact ⟨linesL r, by simp⟩
        obtain ⟨fn, tmps, assign, body, hy, hR⟩ := hY pre ⟨a ++ [10], hal2⟩ (wr.setCell ⟨q, 0, none⟩ (.string (bs r))).drew HX.out (HJ.out _ _ _ hJs (.inr ⟨_, 1, rfl⟩))
        have hq2 : (wr.setCell ⟨q, 0, none⟩ (.string (bs r))).drew.heap[q]? = some (.cells #[.string (bs r)] 9 (0, 0)) := setCell_block hqr 0 (.string (bs r))
        clear hY
        gi_wp2
        refine hR.mono ?_
        rintro e W3 (⟨rfl, hJ3, hk3⟩ | ⟨rfl, hJx3⟩)
        · have hq3 : W3.heap[q]? = some (.cells #[.string (bs r)] 9 (0, 0)) := hk3.2.trans hq2
          clear hR hy hq2 c0 f0
          gi_wp2
          go_roundw
          case rel => exact ⟨pre ++ [⟨a ++ [10], hal2⟩], r, hJ3, hq3, by unfold Hid; rw [← HP.out, HL.out, lnL_snoc]; simp, by omega⟩
          case measure => rw [left_of hq3, left_of hqr, HAL.out, bs_size]; omega
        · clear hR hy hq2 c0 f0
          gi_wp2
          refine bodyPost_ret (results_none rfl _ _ _) rfl ?_
          exact ⟨⟨_, rfl⟩, .inr ⟨_, HX.out, hJx3⟩⟩
theorem lines_ne : ∀ (n : Nat) (l : List UInt8), l.length ≤ n → ∀ x ∈ linesL l, x ≠ []
  | n, l, hn, x, hx => by
    rcases cut_cases 10 l with ⟨_, hno⟩ | ⟨a, r, rfl, ha, _⟩
    · by_cases h0 : l = []
      · subst h0; rw [lines_nil] at hx; cases hx
      · rw [lines_no hno h0] at hx
        rw [List.mem_singleton.1 hx]; exact h0
    · rw [lines_sign ha] at hx
      rcases List.mem_cons.1 hx with rfl | hx
      · simp
      · have hlen : (a ++ 10 :: r).length = a.length + r.length + 1 := by simp; omega
        match n, hn with
        | 0, hn => omega
        | n + 1, hn => exact lines_ne n r (by omega) x hx
theorem flatten_ge : ∀ (L : List (List UInt8)), (∀ x ∈ L, x ≠ []) → L.length ≤ L.flatten.length
  | [], _ => Nat.zero_le _
  | x :: L, h => by
    have h1 := List.length_pos_iff.2 (h x (by simp))
    have h2 := flatten_ge L fun y hy => h y (by simp [hy])
    simp only [List.flatten_cons, List.length_append, List.length_cons]; omega
theorem lines_len (l : List UInt8) : (linesL l).length ≤ l.length := by
  have := flatten_ge (linesL l) (lines_ne _ l (Nat.le_refl _))
  rw [lines_whole _ l (Nat.le_refl _)] at this
  exact this
theorem lnL_len (pre : List Ln) : (lnL pre).length = pre.length := by unfold lnL; simp
open Go

/-- A numeral that is not too long is read as it was written. -/
theorem atoi_back (n : Int) (h : (Lib.trimPrefix (Lib.itoa n) [45]).length ≤ 9) : Lib.atoiAll (Lib.itoa n) = .ok n := by
  refine atoi_itoa ?_
  rcases itoa_cases n with ⟨u, hu, e⟩ | ⟨u, h0, hu, e⟩
  · rw [e, digits_trim] at h
    rw [e]; omega
  · rw [e, minus_trim] at h
    rw [e, List.length_cons]; omega
theorem atoi_range {l : List UInt8} {v : Int} (h : Lib.atoiAll l = .ok v) : I64 v := by
  unfold Lib.atoiAll at h
  unfold I64
  split at h
  · cases h
  · rename_i c r
    simp only at h
    split at h
    · cases h
    · cases h
    · rename_i u hu
      split at h
      · cases h
      · rename_i h1
        split at h
        · cases h
        · rename_i h2
          injection h with h
          by_cases hn : c.toNat = 45
          · rw [if_pos hn] at h
            have : ¬ 9223372036854775808 < u := fun e => h2 ⟨hn, e⟩
            omega
          · rw [if_neg hn] at h
            have : ¬ 9223372036854775808 ≤ u := fun e => h1 ⟨hn, e⟩
            omega
/-- The same for numbers of a few digits. -/
theorem num_of_atoi {l : List UInt8} {v : Int} {m : Nat} (hm : m ≤ 9) (h : Lib.atoiAll l = .ok v) : numL l m = if 0 ≤ v ∧ l.length ≤ m ∧ Lib.itoa v = l then some v.toNat else none := by
  split
  · rename_i hc
    obtain ⟨u, hu⟩ : ∃ u : Nat, v = u := ⟨v.toNat, by omega⟩
    subst hu
    refine numL_iff.2 ⟨?_, hc.2.1⟩
    rw [← hc.2.2, itoa_nat]; simp
  · rename_i hc
    cases hq : numL l m with
    | none => rfl
    | some u =>
      obtain ⟨e1, e2⟩ := numL_iff.1 hq
      have h2 := atoi_back (u : Int) (by rw [itoa_nat, digits_trim, ← e1]; omega)
      rw [itoa_nat, ← e1, h] at h2
      injection h2 with h2
      subst h2
      exact absurd ⟨by omega, e2, by rw [itoa_nat]; exact e1.symm⟩ hc
theorem num_of_bad {l : List UInt8} {m : Nat} (hm : m ≤ 9) (h : ∀ v, Lib.atoiAll l ≠ .ok v) : numL l m = none := by
  cases hq : numL l m with
  | none => rfl
  | some u =>
    obtain ⟨e1, e2⟩ := numL_iff.1 hq
    have h2 := atoi_back (u : Int) (by rw [itoa_nat, digits_trim, ← e1]; omega)
    rw [itoa_nat, ← e1] at h2
    exact absurd h2 (h _)






theorem cut_lens (c : UInt8) (l : List UInt8) : (Lib.cut l [c]).1.length ≤ l.length ∧ (Lib.cut l [c]).2.1.length ≤ l.length := by
  rcases cut_cases c l with ⟨h, _⟩ | ⟨a, r, rfl, _, h⟩
  · rw [h]; exact ⟨Nat.le_refl _, Nat.zero_le _⟩
  · rw [h]; simp; omega

set_option maxHeartbeats 2000000 in
theorem num_any (s : ByteArray) (hs : Sm s) (d : Nat) (hd : d ≤ 9) (w : World) (hT : TxOk w) :
    Calls Tryz.prog 60 #[.string s, .int .i64 d] w fun e w' => ∃ n : Int, e = .returned (.tuple #[.int .i64 n, .bool (numL s.data.toList d).isSome]) ∧ (∀ u, numL s.data.toList d = some u → n = (u : Int)) ∧ Below w.heap.size w w' := by
  have hle : s.data.toList.length = s.size := by rw [Array.length_toList]; rfl
  unfold Sm at hs
  have hx := tx_atoi s w hT (by omega)
  have HT := Lib.hid hT
  clear hT
  go_enter Tryz.func60, Tryz.ntmps60
  go_wp2_with fail
  refine hx.mono ?_
  clear hx
  intro e w1 hat
  obtain ⟨hb1, hat⟩ := hat
  have HT1 := Lib.hid (HT.out.below hb1)
  rcases hat with ⟨v, hv, rfl⟩ | ⟨hv, n, tp, p, rfl⟩
  case inr =>
    have HN := Lib.hid (num_of_bad hd hv)
    clear hv
    go_wp2_with fail
    go_ret2
    exact ⟨n, by rw [HN.out]; rfl, (fun u hu => by rw [HN.out] at hu; cases hu), hb1⟩
  have hi := num_of_atoi hd hv
  have hvr := atoi_range hv
  unfold I64 at hvr
  have HI := Lib.hid hi
  clear hi hv
  have bad : ¬ (0 ≤ v ∧ s.data.toList.length ≤ d ∧ Lib.itoa v = s.data.toList) → Hid (numL s.data.toList d = none) := fun h => by
    unfold Hid; rw [HI.out, if_neg h]
  by_cases h0 : 0 ≤ v
  case neg =>
    have HN := bad fun e => h0 e.1
    have h0b : decide (0 ≤ v) = false := decide_eq_false h0
    clear bad h0 HI
    go_wp2_with fail
    go_ret2
    exact ⟨v, by rw [HN.out]; rfl, (fun u hu => by rw [HN.out] at hu; cases hu), hb1⟩
  by_cases hld : s.size ≤ d
  case neg =>
    have HN := bad fun e => hld (by rw [← hle]; exact e.2.1)
    have hlb : decide (s.size ≤ d) = false := decide_eq_false hld
    clear bad HI hld hle
    go_wp2_with fail
    go_ret2
    exact ⟨v, by rw [HN.out]; rfl, (fun u hu => by rw [HN.out] at hu; cases hu), hb1⟩
  have hlb : decide (s.size ≤ d) = true := decide_eq_true hld
  have hx := tx_itoa v hvr.1 hvr.2 w1 HT1.out.tab
  have hcut : ((⟨(Lib.itoa v).toArray⟩ : ByteArray).toList = s.toList) = (Lib.itoa v = s.data.toList) := by
    rw [bytes_eq]
    refine propext ⟨fun e => ?_, fun e => ?_⟩
    · rw [← e]
    · have := congrArg bs e
      rw [bs_of] at this; exact this
  obtain ⟨V, hV⟩ : ∃ V : ByteArray, V = ⟨(Lib.itoa v).toArray⟩ := ⟨_, rfl⟩
  rw [← hV] at hcut hx
  have HC := Lib.hid hcut
  have HLE := Lib.hid hle
  clear hV hcut hle
  go_wp2_with fail
  refine hx.mono ?_
  clear hx
  rintro e w2 ⟨rfl, hb2⟩
  have hB2 := hb1.trans (hb2.mono hb1.size)
  by_cases hc : Lib.itoa v = s.data.toList
  · have HN : Hid (numL s.data.toList d = some v.toNat) := by unfold Hid; rw [HI.out, if_pos ⟨h0, by rw [HLE.out]; exact hld, hc⟩]
    have hS : (V.toList == s.toList) = true := by rw [beq_iff_eq, HC.out]; exact hc
    clear bad HI hc HC
    go_wp2_with fail
    go_ret2
    exact ⟨v, by rw [HN.out]; rfl, (fun u hu => by rw [HN.out] at hu; injection hu with hu; omega), hB2⟩
  · have HN := bad fun e => hc e.2.2
    have hS : (V.toList == s.toList) = false := by
      rw [beq_eq_false_iff_ne]
      intro e
      rw [HC.out] at e
      exact hc e
    clear bad HI hc HC
    go_wp2_with fail
    go_ret2
    exact ⟨v, by rw [HN.out]; rfl, (fun u hu => by rw [HN.out] at hu; cases hu), hB2⟩



theorem num_i64 {l : List UInt8} {m u : Nat} (hm : m ≤ 9) (h : numL l m = some u) : I64 (u : Int) := by
  have h1 := (numL_iff.1 h).1
  exact atoi_range (atoi_back (u : Int) (by rw [itoa_nat, digits_trim, ← h1]; have := (numL_iff.1 h).2; omega))

/-- All blocks of cells are as they were. -/
def AllSame (W W' : World) : Prop := ∀ (k : Nat) c T fr, W.heap[k]? = some (.cells c T fr) → W'.heap[k]? = some (.cells c T fr)
theorem AllSame.same {W W' : World} (h : AllSame W W') (T : TypeId) : Same T W W' := fun k c fr hk => h k c T fr hk
theorem AllSame.refl (W : World) : AllSame W W := fun _ _ _ _ h => h
theorem AllSame.trans {A B C : World} (h : AllSame A B) (k : AllSame B C) : AllSame A C := fun i c T fr hi => k i c T fr (h i c T fr hi)
theorem AllSame.below {W W' : World} (hb : Below W.heap.size W W') : AllSame W W' := fun k _ _ _ h => (hb.block k (Array.getElem?_eq_some_iff.1 h).1).trans h
theorem AllSame.drewN (W : World) (n : Nat) : AllSame W (W.drewN n) := fun _ _ _ _ h => h
theorem AllSame.grown {W W' : World} {row : Option Nat} (hg : W.grownBy W' row) (hr : ∀ r, row = some r → ∃ o : Obj, W.heap[r]? = some o ∧ o.isCells = false) : AllSame W W' := fun k c T fr h => by
  refine (hg.block k (Array.getElem?_eq_some_iff.1 h).1 fun e => ?_).trans h
  obtain ⟨o, ho, hc⟩ := hr k e.symm
  rw [h] at ho
  injection ho with ho
  subst ho
  cases hc
theorem setCell_other {w : World} {k q : Nat} {o : Obj} (h : w.heap[k]? = some o) (hne : k ≠ q) (i : Nat) (v : Value) : (w.setCell ⟨q, i, none⟩ v).heap[k]? = some o := (Below.heap_setCell w ⟨q, i, none⟩ v k hne).trans h
/-- What a round keeps, out of what its steps keep. -/
theorem KeepsFrom.below {B : Nat} {W W' : World} (h : Below W.heap.size W W') : KeepsFrom B W W' := ⟨h.size, fun k _ _ hk _ => (h.block k (Array.getElem?_eq_some_iff.1 hk).1).trans hk⟩
theorem KeepsFrom.setCell {B q : Nat} (W : World) (hq : q < B) (i : Nat) (v : Value) : KeepsFrom B W (W.setCell ⟨q, i, none⟩ v) := ⟨by simp [World.setCell], fun _ _ hB hk _ => setCell_other hk (by omega) i v⟩
theorem KeepsFrom.append {B : Nat} {W W' : World} {e : TypeId} {B' sz n : Nat} {v : Value} {xs : List Value} (ho : Own W B' e sz v n xs) (hg : W.grownBy W' v.ownBlock) : KeepsFrom B W W' :=
  ⟨hg.size, fun k o _ hk hc => (hg.block k (Array.getElem?_eq_some_iff.1 hk).1 (fun e => by
    rcases ho.2 with ⟨rfl, _⟩ | ⟨g, _, _, _, rfl, _, hg2, _⟩
    · simp [Value.ownBlock] at e
    · simp [Value.ownBlock] at e
      subst e
      rw [hk] at hg2
      injection hg2 with hg2
      subst hg2
      cases hc)).trans hk⟩

section
variable {b : Nat} {g : Grf} {An At : Option Addr} {cn ct : Nat} {xs : List Value} {pre : List (List UInt8)} {W W5 : World}
end

theorem bs_lit {K L M : List UInt8} (h : (bs L).toList = M) : ((bs K).toList = M) = (K = L) := propext
  ⟨fun e => by
    have e2 : bs K = bs L := by rw [← bytes_eq, h]; exact e
    simpa [bs] using congrArg (·.data.toList) e2, fun e => by rw [e]; exact h⟩
theorem trim_len (x : List UInt8) : (Lib.trimSuffix x [10]).length ≤ x.length := by
  rcases suffix_cases x with h | ⟨a, rfl⟩
  · unfold Lib.trimSuffix; rw [h]; exact Nat.le_refl _
  · rw [(suffix_line a).2]; simp
section
variable {b B : Nat} {w W X V : World} {g : Grf} {An At : Option Addr} {cn ct : Nat} {xs : List Value} {pre : List (List UInt8)}
theorem more_end {i : Nat} {u v : Value} (hB : b + 6 ≤ B) (hk : KeepsFrom B W X) (hb : Below b w X) (hl : Below b W X) (hq : X.heap[b + 1 + 1 + 1 + 1 + 1]? = W.heap[b + 1 + 1 + 1 + 1 + 1]?) {Z : World} (hZ : Z = (X.setCell ⟨b + 1 + 1 + 1, i, none⟩ u).setCell ⟨b + 1 + 1 + 1 + 1, 0, none⟩ v) :
    KeepsFrom B W Z ∧ LKeep b (b + 1 + 1 + 1 + 1 + 1) W Z ∧ Below b w Z := by
  subst hZ
  refine ⟨(hk.trans (KeepsFrom.setCell (q := b + 1 + 1 + 1) _ (by omega) _ _)).trans (KeepsFrom.setCell (q := b + 1 + 1 + 1 + 1) _ (by omega) _ _), ⟨?_, ?_⟩, ?_⟩
  · exact (hl.setCell (p := ⟨b + 1 + 1 + 1, i, none⟩) (by show b ≤ b + 1 + 1 + 1; omega) _).setCell (p := ⟨b + 1 + 1 + 1 + 1, 0, none⟩) (by show b ≤ b + 1 + 1 + 1 + 1; omega) _
  · exact (Below.heap_setCell _ _ _ _ (by show b + 1 + 1 + 1 + 1 + 1 ≠ b + 1 + 1 + 1 + 1; omega)).trans ((Below.heap_setCell _ _ _ _ (by show b + 1 + 1 + 1 + 1 + 1 ≠ b + 1 + 1 + 1; omega)).trans hq)
  · exact (hb.setCell (p := ⟨b + 1 + 1 + 1, i, none⟩) (by show b ≤ b + 1 + 1 + 1; omega) _).setCell (p := ⟨b + 1 + 1 + 1 + 1, 0, none⟩) (by show b ≤ b + 1 + 1 + 1 + 1; omega) _
end

section
variable {b D : Nat} {w Z : World}
theorem AllSame.putObj {o o' : Obj} (h : Z.heap[D]? = some o) (hc : o.isCells = false) : AllSame Z (Z.putObj D o') := fun k c T fr hk => by
  by_cases hkd : k = D
  · subst hkd; rw [h] at hk; injection hk with hk; subst hk; cases hc
  · exact (World.putObj_heap_other hkd).trans hk
theorem below_putObj {o : Obj} (hb : Below w.heap.size w Z) (hD : w.heap.size ≤ D) : Below w.heap.size w (Z.putObj D o) := hb.grown (grownBy_putObj' Z D o) hb.size (fun k e => by injection e with e; omega)
end
end Go.Proofs.YtfeccicogcnhcaaGreatDoor
