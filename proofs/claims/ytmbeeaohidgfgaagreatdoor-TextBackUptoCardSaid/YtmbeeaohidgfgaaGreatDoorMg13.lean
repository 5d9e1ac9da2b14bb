/- Parts: TxM. -/
import Derived.Test.YtmbeeaohidgfgaaGreatDoorMg08
import Derived.Test.YtmbeeaohidgfgaaGreatDoorMg12
import Derived.Test.YtmbeeaohidgfgaaGreatDoorMg06
import Derived.Shelf.Strings.Cut
import Derived.Shelf.Strings.Split
import Derived.Shelf.Small.Wraps
import Derived.Shelf.Small.Strs
/- More contracts of the shelf on texts, laid: strings.Cut, CutSuffix, Split, SplitN, IndexByte. -/
namespace Go.Proofs.YtmbeeaohidgfgaaGreatDoor
open Go Go.Shelf Go.RowKit

-- written by shelflay.py for the seat YtmbeeaohidgfgaaGreatDoor
def cutLay_ren : Go.Shelf.Ren := ⟨fun | 145 => 27 | 220 => 55 | 219 => 85 | 217 => 94 | 225 => 113 | 224 => 114 | 267 => 115 | 266 => 124 | 314 => 137 | n => n, fun | 9 => 9 | 4 => 4 | 59 => 79 | 3 => 3 | 5 => 5 | 46 => 142 | 146 => 205 | 51 => 204 | 20 => 20 | n => n, fun | 1 => 2 | n => n⟩
theorem cutLay : Go.Proofs.Lays.n145 Tryz.prog cutLay_ren := {
  mixed := by kernel_rfl,
  f145 := Tryz.func27.trans (congrArg some (by kernel_rfl)),
  f217 := Tryz.func94.trans (congrArg some (by kernel_rfl)),
  f219 := Tryz.func85.trans (congrArg some (by kernel_rfl)),
  f220 := Tryz.func55.trans (congrArg some (by kernel_rfl)),
  f224 := Tryz.func114.trans (congrArg some (by kernel_rfl)),
  f225 := Tryz.func113.trans (congrArg some (by kernel_rfl)),
  f266 := Tryz.func124.trans (congrArg some (by kernel_rfl)),
  f267 := Tryz.func115.trans (congrArg some (by kernel_rfl)),
  f314 := Tryz.func137.trans (congrArg some (by kernel_rfl)),
  t3 := Tryz.underlying3,
  a3 := Tryz.isAgg3,
  z3 := Tryz.sizeOf3,
  v3 := Tryz.zeroValue3,
  t4 := Tryz.underlying4,
  a4 := Tryz.isAgg4,
  z4 := Tryz.sizeOf4,
  v4 := Tryz.zeroValue4,
  t5 := Tryz.underlying5,
  a5 := Tryz.isAgg5,
  z5 := Tryz.sizeOf5,
  v5 := Tryz.zeroValue5,
  t9 := Tryz.underlying9,
  a9 := Tryz.isAgg9,
  z9 := Tryz.sizeOf9,
  v9 := Tryz.zeroValue9,
  t46 := Tryz.underlying142,
  a46 := Tryz.isAgg142,
  z46 := Tryz.sizeOf142,
  v46 := Tryz.zeroValue142,
  t51 := Tryz.underlying204,
  a51 := Tryz.isAgg204,
  z51 := Tryz.sizeOf204,
  v51 := Tryz.zeroValue204,
  t59 := Tryz.underlying79,
  a59 := Tryz.isAgg79,
  z59 := Tryz.sizeOf79,
  v59 := Tryz.zeroValue79,
  t146 := Tryz.underlying205,
  a146 := Tryz.isAgg205,
  z146 := Tryz.sizeOf205,
  v146 := Tryz.zeroValue205,
  g1 := by kernel_rfl }
-- written by shelflay.py for the seat YtmbeeaohidgfgaaGreatDoor
def cutSLay_ren : Go.Shelf.Ren := ⟨fun | 104 => 32 | 211 => 63 | 207 => 95 | n => n, fun | 9 => 9 | 4 => 4 | 24 => 87 | 3 => 3 | 20 => 20 | n => n, fun | n => n⟩
theorem cutSLay : Go.Proofs.Lays.n104 Tryz.prog cutSLay_ren := {
  mixed := by kernel_rfl,
  f104 := Tryz.func32.trans (congrArg some (by kernel_rfl)),
  f207 := Tryz.func95.trans (congrArg some (by kernel_rfl)),
  f211 := Tryz.func63.trans (congrArg some (by kernel_rfl)),
  t3 := Tryz.underlying3,
  a3 := Tryz.isAgg3,
  z3 := Tryz.sizeOf3,
  v3 := Tryz.zeroValue3,
  t4 := Tryz.underlying4,
  a4 := Tryz.isAgg4,
  z4 := Tryz.sizeOf4,
  v4 := Tryz.zeroValue4,
  t9 := Tryz.underlying9,
  a9 := Tryz.isAgg9,
  z9 := Tryz.sizeOf9,
  v9 := Tryz.zeroValue9,
  t24 := Tryz.underlying87,
  a24 := Tryz.isAgg87,
  z24 := Tryz.sizeOf87,
  v24 := Tryz.zeroValue87 }
-- written by shelflay.py for the seat YtmbeeaohidgfgaaGreatDoor
def splitLay_ren : Go.Shelf.Ren := ⟨fun | 146 => 33 | 221 => 64 | 268 => 96 | 138 => 97 | 143 => 98 | 195 => 125 | 197 => 111 | 218 => 126 | 219 => 85 | 260 => 136 | 217 => 94 | 225 => 113 | 224 => 114 | 267 => 115 | 266 => 124 | 314 => 137 | n => n, fun | 9 => 9 | 31 => 50 | 3 => 3 | 4 => 4 | 0 => 0 | 105 => 169 | 21 => 21 | 5 => 5 | 46 => 142 | 119 => 230 | 139 => 233 | 138 => 232 | 146 => 205 | 51 => 204 | 20 => 20 | n => n, fun | 1 => 2 | 3 => 6 | 4 => 7 | n => n⟩
theorem splitLay : Go.Proofs.Lays.n146 Tryz.prog splitLay_ren := {
  mixed := by kernel_rfl,
  f138 := Tryz.func97.trans (congrArg some (by kernel_rfl)),
  f143 := Tryz.func98.trans (congrArg some (by kernel_rfl)),
  f146 := Tryz.func33.trans (congrArg some (by kernel_rfl)),
  f195 := Tryz.func125.trans (congrArg some (by kernel_rfl)),
  f197 := Tryz.func111.trans (congrArg some (by kernel_rfl)),
  f217 := Tryz.func94.trans (congrArg some (by kernel_rfl)),
  f218 := Tryz.func126.trans (congrArg some (by kernel_rfl)),
  f219 := Tryz.func85.trans (congrArg some (by kernel_rfl)),
  f221 := Tryz.func64.trans (congrArg some (by kernel_rfl)),
  f224 := Tryz.func114.trans (congrArg some (by kernel_rfl)),
  f225 := Tryz.func113.trans (congrArg some (by kernel_rfl)),
  f260 := Tryz.func136.trans (congrArg some (by kernel_rfl)),
  f266 := Tryz.func124.trans (congrArg some (by kernel_rfl)),
  f267 := Tryz.func115.trans (congrArg some (by kernel_rfl)),
  f268 := Tryz.func96.trans (congrArg some (by kernel_rfl)),
  f314 := Tryz.func137.trans (congrArg some (by kernel_rfl)),
  t0 := Tryz.underlying0,
  a0 := Tryz.isAgg0,
  z0 := Tryz.sizeOf0,
  v0 := Tryz.zeroValue0,
  t3 := Tryz.underlying3,
  a3 := Tryz.isAgg3,
  z3 := Tryz.sizeOf3,
  v3 := Tryz.zeroValue3,
  t4 := Tryz.underlying4,
  a4 := Tryz.isAgg4,
  z4 := Tryz.sizeOf4,
  v4 := Tryz.zeroValue4,
  t5 := Tryz.underlying5,
  a5 := Tryz.isAgg5,
  z5 := Tryz.sizeOf5,
  v5 := Tryz.zeroValue5,
  t9 := Tryz.underlying9,
  a9 := Tryz.isAgg9,
  z9 := Tryz.sizeOf9,
  v9 := Tryz.zeroValue9,
  t21 := Tryz.underlying21,
  a21 := Tryz.isAgg21,
  z21 := Tryz.sizeOf21,
  v21 := Tryz.zeroValue21,
  t31 := Tryz.underlying50,
  a31 := Tryz.isAgg50,
  z31 := Tryz.sizeOf50,
  v31 := Tryz.zeroValue50,
  t46 := Tryz.underlying142,
  a46 := Tryz.isAgg142,
  z46 := Tryz.sizeOf142,
  v46 := Tryz.zeroValue142,
  t51 := Tryz.underlying204,
  a51 := Tryz.isAgg204,
  z51 := Tryz.sizeOf204,
  v51 := Tryz.zeroValue204,
  t105 := Tryz.underlying169,
  a105 := Tryz.isAgg169,
  z105 := Tryz.sizeOf169,
  v105 := Tryz.zeroValue169,
  t119 := Tryz.underlying230,
  a119 := Tryz.isAgg230,
  z119 := Tryz.sizeOf230,
  t138 := Tryz.underlying232,
  a138 := Tryz.isAgg232,
  z138 := Tryz.sizeOf232,
  v138 := Tryz.zeroValue232,
  t139 := Tryz.underlying233,
  a139 := Tryz.isAgg233,
  z139 := Tryz.sizeOf233,
  v139 := Tryz.zeroValue233,
  t146 := Tryz.underlying205,
  a146 := Tryz.isAgg205,
  z146 := Tryz.sizeOf205,
  v146 := Tryz.zeroValue205,
  g1 := by kernel_rfl,
  g3 := by kernel_rfl,
  g4 := by kernel_rfl }
-- written by shelflay.py for the seat YtmbeeaohidgfgaaGreatDoor
def splitNLay_ren : Go.Shelf.Ren := ⟨fun | 147 => 73 | 221 => 64 | 268 => 96 | 138 => 97 | 143 => 98 | 195 => 125 | 197 => 111 | 218 => 126 | 219 => 85 | 260 => 136 | 217 => 94 | 225 => 113 | 224 => 114 | 267 => 115 | 266 => 124 | 314 => 137 | n => n, fun | 9 => 9 | 3 => 3 | 31 => 50 | 4 => 4 | 0 => 0 | 105 => 169 | 21 => 21 | 5 => 5 | 46 => 142 | 119 => 230 | 139 => 233 | 138 => 232 | 146 => 205 | 51 => 204 | 20 => 20 | n => n, fun | 1 => 2 | 3 => 6 | 4 => 7 | n => n⟩
theorem splitNLay : Go.Proofs.Lays.n147 Tryz.prog splitNLay_ren := {
  mixed := by kernel_rfl,
  f138 := Tryz.func97.trans (congrArg some (by kernel_rfl)),
  f143 := Tryz.func98.trans (congrArg some (by kernel_rfl)),
  f147 := Tryz.func73.trans (congrArg some (by kernel_rfl)),
  f195 := Tryz.func125.trans (congrArg some (by kernel_rfl)),
  f197 := Tryz.func111.trans (congrArg some (by kernel_rfl)),
  f217 := Tryz.func94.trans (congrArg some (by kernel_rfl)),
  f218 := Tryz.func126.trans (congrArg some (by kernel_rfl)),
  f219 := Tryz.func85.trans (congrArg some (by kernel_rfl)),
  f221 := Tryz.func64.trans (congrArg some (by kernel_rfl)),
  f224 := Tryz.func114.trans (congrArg some (by kernel_rfl)),
  f225 := Tryz.func113.trans (congrArg some (by kernel_rfl)),
  f260 := Tryz.func136.trans (congrArg some (by kernel_rfl)),
  f266 := Tryz.func124.trans (congrArg some (by kernel_rfl)),
  f267 := Tryz.func115.trans (congrArg some (by kernel_rfl)),
  f268 := Tryz.func96.trans (congrArg some (by kernel_rfl)),
  f314 := Tryz.func137.trans (congrArg some (by kernel_rfl)),
  t0 := Tryz.underlying0,
  a0 := Tryz.isAgg0,
  z0 := Tryz.sizeOf0,
  v0 := Tryz.zeroValue0,
  t3 := Tryz.underlying3,
  a3 := Tryz.isAgg3,
  z3 := Tryz.sizeOf3,
  v3 := Tryz.zeroValue3,
  t4 := Tryz.underlying4,
  a4 := Tryz.isAgg4,
  z4 := Tryz.sizeOf4,
  v4 := Tryz.zeroValue4,
  t5 := Tryz.underlying5,
  a5 := Tryz.isAgg5,
  z5 := Tryz.sizeOf5,
  v5 := Tryz.zeroValue5,
  t9 := Tryz.underlying9,
  a9 := Tryz.isAgg9,
  z9 := Tryz.sizeOf9,
  v9 := Tryz.zeroValue9,
  t21 := Tryz.underlying21,
  a21 := Tryz.isAgg21,
  z21 := Tryz.sizeOf21,
  v21 := Tryz.zeroValue21,
  t31 := Tryz.underlying50,
  a31 := Tryz.isAgg50,
  z31 := Tryz.sizeOf50,
  v31 := Tryz.zeroValue50,
  t46 := Tryz.underlying142,
  a46 := Tryz.isAgg142,
  z46 := Tryz.sizeOf142,
  v46 := Tryz.zeroValue142,
  t51 := Tryz.underlying204,
  a51 := Tryz.isAgg204,
  z51 := Tryz.sizeOf204,
  v51 := Tryz.zeroValue204,
  t105 := Tryz.underlying169,
  a105 := Tryz.isAgg169,
  z105 := Tryz.sizeOf169,
  v105 := Tryz.zeroValue169,
  t119 := Tryz.underlying230,
  a119 := Tryz.isAgg230,
  z119 := Tryz.sizeOf230,
  t138 := Tryz.underlying232,
  a138 := Tryz.isAgg232,
  z138 := Tryz.sizeOf232,
  v138 := Tryz.zeroValue232,
  t139 := Tryz.underlying233,
  a139 := Tryz.isAgg233,
  z139 := Tryz.sizeOf233,
  v139 := Tryz.zeroValue233,
  t146 := Tryz.underlying205,
  a146 := Tryz.isAgg205,
  z146 := Tryz.sizeOf205,
  v146 := Tryz.zeroValue205,
  g1 := by kernel_rfl,
  g3 := by kernel_rfl,
  g4 := by kernel_rfl }
-- written by shelflay.py for the seat YtmbeeaohidgfgaaGreatDoor
def idxBLay_ren : Go.Shelf.Ren := ⟨fun | 137 => 62 | 217 => 94 | 266 => 124 | n => n, fun | 9 => 9 | 5 => 5 | 3 => 3 | 20 => 20 | n => n, fun | n => n⟩
theorem idxBLay : Go.Proofs.Lays.n137 Tryz.prog idxBLay_ren := {
  mixed := by kernel_rfl,
  f137 := Tryz.func62.trans (congrArg some (by kernel_rfl)),
  f217 := Tryz.func94.trans (congrArg some (by kernel_rfl)),
  f266 := Tryz.func124.trans (congrArg some (by kernel_rfl)),
  t3 := Tryz.underlying3,
  a3 := Tryz.isAgg3,
  z3 := Tryz.sizeOf3,
  v3 := Tryz.zeroValue3,
  t5 := Tryz.underlying5,
  a5 := Tryz.isAgg5,
  z5 := Tryz.sizeOf5,
  v5 := Tryz.zeroValue5,
  t9 := Tryz.underlying9,
  a9 := Tryz.isAgg9,
  z9 := Tryz.sizeOf9,
  v9 := Tryz.zeroValue9 }

theorem len_size (s : ByteArray) : s.data.toList.length = s.size := by rw [Array.length_toList]; rfl
theorem tx_cut (s : ByteArray) (c : UInt8) (w : World) (h : TxP w) (hs : s.size < 4294967281) :
    Calls Tryz.prog 27 #[.string s, .string ⟨#[c]⟩] w fun e w' => e = .returned (.tuple #[.string (bs (Lib.cut s.data.toList [c]).1), .string (bs (Lib.cut s.data.toList [c]).2.1), .bool (Lib.cut s.data.toList [c]).2.2]) ∧ Below w.heap.size w w' := by
  obtain ⟨m, hm⟩ := h.len
  refine (Any.strings_Cut cutLay s ⟨#[c]⟩ m w hs hm).mono fun e w' ⟨he, n, hw⟩ => ⟨he, ?_⟩
  rw [hw]
  exact below_drewN (Below.refl _ _) n
theorem tx_cutSuffix (s : ByteArray) (c : UInt8) (w : World) (hs : s.size ≤ 9223372036854775807) :
    Calls Tryz.prog 32 #[.string s, .string ⟨#[c]⟩] w fun e w' => e = .returned (.tuple #[.string (bs (Lib.trimSuffix s.data.toList [c])), .bool (Lib.hasSuffix s.data.toList [c])]) ∧ w = w' :=
  (Any.strings_CutSuffix cutSLay s ⟨#[c]⟩ w hs).mono fun _ _ ⟨he, hw⟩ => ⟨he, hw.symm⟩
theorem tx_idxByte (s : ByteArray) (c : Int) (w : World) :
    Calls Tryz.prog 62 #[.string s, .int .u8 c] w fun e w' => e = .returned (.int .i64 (Lib.indexByte s.data.toList c.toNat.toUInt8)) ∧ w = w' :=
  (Any.strings_IndexByte idxBLay s c w).mono fun _ _ ⟨he, hw⟩ => ⟨he, hw.symm⟩
/-- A new row of texts. -/
theorem sl_texts {w : World} {b c : Nat} {t : TypeId} {fr : Nat × Nat} {cs : List Value} (xs : List ByteArray) (h : w.heap[b]? = some (.cells cs.toArray t fr)) (hc : ∀ (j : Nat) (x : ByteArray), xs[j]? = some x → cs[j]? = some (Value.string x)) (hx : ∀ x ∈ xs, Sm x) (h1 : xs.length ≤ c) (h2 : c ≤ maxLen) :
    Sl strL w (.slice (some ⟨b, 0, none⟩) xs.length c) xs := by
  refine ⟨_, c, rfl, h1, h2, fun i d hi => ⟨b, 0, _, rfl, ⟨rfl, hx d (List.mem_of_getElem? hi)⟩, fun j u hj => ?_⟩⟩
  rw [block_cell h]
  match j, hj with
  | 0, hj =>
    simp only [List.getElem?_cons_zero, Option.some.injEq] at hj
    subst hj
    have := hc i d hi
    simpa [strL, flatL] using this
theorem split_len (c : UInt8) : ∀ (n : Nat) (l : List UInt8), l.length ≤ n → (∀ x ∈ Lib.split l [c], x.length ≤ l.length) ∧ (Lib.split l [c]).length ≤ l.length + 1
  | n, l, hn => by
    rcases first_sign c l with h | ⟨a, r, rfl, h⟩
    · rw [split_no h]
      exact ⟨fun x hx => by rcases List.mem_singleton.1 hx with rfl; exact Nat.le_refl _, by simp⟩
    · cases n with
      | zero => simp at hn
      | succ n =>
        obtain ⟨i1, i2⟩ := split_len c n r (by simp at hn; omega)
        rw [split_sign h]
        refine ⟨fun x hx => ?_, ?_⟩
        · rcases List.mem_cons.1 hx with rfl | hx
          · simp
          · have := i1 x hx; simp; omega
        · simp only [List.length_cons, List.length_append]; omega
theorem splitN_len (c : UInt8) (l : List UInt8) : ∀ x ∈ Lib.splitN l [c] 3, x.length ≤ l.length := by
  unfold Lib.splitN
  generalize min 3 (l.length + 1) - 1 = k
  have key : ∀ (k : Nat) (l : List UInt8), ∀ x ∈ Lib.splitK [c] 0 k l, x.length ≤ l.length := by
    intro k
    induction k with
    | zero => intro l x hx; rcases List.mem_singleton.1 hx with rfl; exact Nat.le_refl _
    | succ k ih =>
      intro l x hx
      rcases first_sign c l with h | ⟨a, r, rfl, h⟩
      · rw [splitK_no h] at hx
        rcases List.mem_singleton.1 hx with rfl; exact Nat.le_refl _
      · rw [splitK_hit1 h] at hx
        rcases List.mem_cons.1 hx with rfl | hx
        · simp
        · have := ih r x hx; simp; omega
  exact key k l
theorem tx_split (s : ByteArray) (c : UInt8) (w : World) (h : TxP w) (hs : Sm s) :
    Calls Tryz.prog 33 #[.string s, .string ⟨#[c]⟩] w fun e w' => e = .returned (.slice (some ⟨w.heap.size, 0, none⟩) (Lib.split s.data.toList [c]).length (Lib.split s.data.toList [c]).length) ∧ Sl strL w' (.slice (some ⟨w.heap.size, 0, none⟩) (Lib.split s.data.toList [c]).length (Lib.split s.data.toList [c]).length) ((Lib.split s.data.toList [c]).map bs) ∧ Below w.heap.size w w' := by
  obtain ⟨m, hm⟩ := h.len
  unfold Sm at hs
  have hl := len_size s
  refine (Any.strings_Split splitLay str_info s ⟨#[c]⟩ m w (by omega) hm (Nat.le_refl 1)).mono fun e w' ⟨he, hw⟩ => ?_
  have e1 : (Lib.splitB ⟨#[c]⟩ 0 (Lib.countB s ⟨#[c]⟩) s).map (·.data.toList) = Lib.split s.data.toList [c] := Lib.splitB_data _ _ _ _
  have e2 : Lib.splitB ⟨#[c]⟩ 0 (Lib.countB s ⟨#[c]⟩) s = (Lib.split s.data.toList [c]).map bs := by
    rw [← e1, list_bs]
  have e3 : Lib.countB s ⟨#[c]⟩ + 1 = (Lib.split s.data.toList [c]).length := by
    rw [← e1, List.length_map, Lib.splitB_all ⟨#[c]⟩ (Nat.le_refl 1) 0 _ s rfl]
  obtain ⟨p1, p2⟩ := split_len c _ s.data.toList (Nat.le_refl _)
  refine ⟨by rw [he, e3], ?_, by rw [hw]; exact (Below.refl _ _).alloc (Nat.le_refl _) _⟩
  have := sl_texts (w := w') (b := w.heap.size) (c := (Lib.split s.data.toList [c]).length) (cs := ((Lib.split s.data.toList [c]).map bs).map Value.string) ((Lib.split s.data.toList [c]).map bs) (by rw [hw, e2]; exact heap_alloc_new _ _) (fun j x hj => by rw [List.getElem?_map, hj]; rfl)
    (fun x hx => by
      obtain ⟨y, hy, rfl⟩ := List.mem_map.1 hx
      have := p1 y hy
      unfold Sm; rw [bs_size]; omega) (by rw [List.length_map]; exact Nat.le_refl _) (by unfold maxLen; omega)
  rw [List.length_map] at this
  exact this
theorem tx_splitN (s : ByteArray) (c : UInt8) (w : World) (h : TxP w) (hs : Sm s) :
    Calls Tryz.prog 73 #[.string s, .string ⟨#[c]⟩, .int .i64 3] w fun e w' => ∃ k, e = .returned (.slice (some ⟨w.heap.size, 0, none⟩) (Lib.splitN s.data.toList [c] 3).length k) ∧ Sl strL w' (.slice (some ⟨w.heap.size, 0, none⟩) (Lib.splitN s.data.toList [c] 3).length k) ((Lib.splitN s.data.toList [c] 3).map bs) ∧ Below w.heap.size w w' := by
  obtain ⟨m, hm⟩ := h.len
  unfold Sm at hs
  have hl := len_size s
  refine (Any.strings_SplitN splitNLay str_info s ⟨#[c]⟩ 3 m w (by omega) hm (Nat.le_refl 1) (by omega) (by omega)).mono fun e w' ⟨he, hw⟩ => ⟨min 3 (s.size + 1), ?_⟩
  have e1 : (Lib.splitB ⟨#[c]⟩ 0 (min 3 (s.size + 1) - 1) s).map (·.data.toList) = Lib.splitN s.data.toList [c] 3 := by
    unfold Lib.splitN
    rw [hl]
    exact Lib.splitB_data _ _ _ _
  have e2 : Lib.splitB ⟨#[c]⟩ 0 (min 3 (s.size + 1) - 1) s = (Lib.splitN s.data.toList [c] 3).map bs := by
    rw [← e1, list_bs]
  have e3 : (Lib.splitB ⟨#[c]⟩ 0 (min 3 (s.size + 1) - 1) s).length = (Lib.splitN s.data.toList [c] 3).length := by
    rw [← e1, List.length_map]
  have e4 := Lib.splitB_length_le ⟨#[c]⟩ 0 (min 3 (s.size + 1) - 1) s
  rw [e3] at e4 he
  refine ⟨he, ?_, by rw [hw]; exact (Below.refl _ _).alloc (Nat.le_refl _) _⟩
  have := sl_texts (w := w') (b := w.heap.size) (c := min 3 (s.size + 1)) (cs := ((Lib.splitN s.data.toList [c] 3).map bs).map Value.string ++ List.replicate (min 3 (s.size + 1) - ((Lib.splitN s.data.toList [c] 3).map bs).length) (Value.string ByteArray.empty)) ((Lib.splitN s.data.toList [c] 3).map bs) (by rw [hw, e2]; exact heap_alloc_new _ _) (fun j x hj => by
      have hlt := (List.getElem?_eq_some_iff.1 hj).1
      rw [List.getElem?_append_left (by rw [List.length_map]; exact hlt), List.getElem?_map, hj]; rfl)
    (fun x hx => by
      obtain ⟨y, hy, rfl⟩ := List.mem_map.1 hx
      have := splitN_len c _ y hy
      unfold Sm; rw [bs_size]; omega) (by rw [List.length_map]; omega) (by unfold maxLen; omega)
  rw [List.length_map] at this
  exact this
end Go.Proofs.YtmbeeaohidgfgaaGreatDoor
