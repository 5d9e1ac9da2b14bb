/- Parts: TxM, LinA. -/
import Derived.Test.YtflidfmpmakggaaGreatDoorMg07
import Derived.Test.YtflidfmpmakggaaGreatDoorMg12
import Derived.Test.YtflidfmpmakggaaGreatDoorMg03
import Derived.Shelf.Strings.Cut
import Derived.Shelf.Strings.Split
import Derived.Shelf.Small.Wraps
import Derived.Shelf.Small.Strs
import Derived.Test.YtflidfmpmakggaaGreatDoorMg08
import Derived.RegionIn
import Derived.Lib.IndexLaws
import Derived.IntWalk
/- More contracts of the shelf on texts, laid: strings.Cut, CutSuffix, Split, SplitN, IndexByte. -/
namespace Go.Proofs.YtflidfmpmakggaaGreatDoor
open Go Go.Shelf Go.RowKit

-- written by shelflay.py for the seat YtflidfmpmakggaaGreatDoor
def cutLay_ren : Go.Shelf.Ren := ⟨fun | 145 => 58 | 220 => 107 | 219 => 159 | 217 => 157 | 225 => 203 | 224 => 204 | 267 => 205 | 266 => 202 | 314 => 229 | n => n, fun | 9 => 9 | 4 => 4 | 59 => 118 | 3 => 3 | 5 => 5 | 46 => 293 | 146 => 309 | 51 => 306 | 20 => 20 | n => n, fun | 1 => 3 | n => n⟩
theorem cutLay : Go.Proofs.Lays.n145 Tryz.prog cutLay_ren := {
  mixed := by kernel_rfl,
  f145 := Tryz.func58.trans (congrArg some (by kernel_rfl)),
  f217 := Tryz.func157.trans (congrArg some (by kernel_rfl)),
  f219 := Tryz.func159.trans (congrArg some (by kernel_rfl)),
  f220 := Tryz.func107.trans (congrArg some (by kernel_rfl)),
  f224 := Tryz.func204.trans (congrArg some (by kernel_rfl)),
  f225 := Tryz.func203.trans (congrArg some (by kernel_rfl)),
  f266 := Tryz.func202.trans (congrArg some (by kernel_rfl)),
  f267 := Tryz.func205.trans (congrArg some (by kernel_rfl)),
  f314 := Tryz.func229.trans (congrArg some (by kernel_rfl)),
  t3 := Tryz.underlying3,
  a3 := Tryz.isAgg3,
  z3 := Tryz.sizeOf3,
  v3 := Tryz.zeroValue3,
  t4 := Tryz.underlying4,
  a4 := Tryz.isAgg4,
  z4 := Tryz.sizeOf4,
  v4 := Tryz.zeroValue4,
  t5 := Tryz.underlying5,
  a5 := Tryz.isAgg5,
  z5 := Tryz.sizeOf5,
  v5 := Tryz.zeroValue5,
  t9 := Tryz.underlying9,
  a9 := Tryz.isAgg9,
  z9 := Tryz.sizeOf9,
  v9 := Tryz.zeroValue9,
  t46 := Tryz.underlying293,
  a46 := Tryz.isAgg293,
  z46 := Tryz.sizeOf293,
  v46 := Tryz.zeroValue293,
  t51 := Tryz.underlying306,
  a51 := Tryz.isAgg306,
  z51 := Tryz.sizeOf306,
  v51 := Tryz.zeroValue306,
  t59 := Tryz.underlying118,
  a59 := Tryz.isAgg118,
  z59 := Tryz.sizeOf118,
  v59 := Tryz.zeroValue118,
  t146 := Tryz.underlying309,
  a146 := Tryz.isAgg309,
  z146 := Tryz.sizeOf309,
  v146 := Tryz.zeroValue309,
  g1 := by kernel_rfl }
-- written by shelflay.py for the seat YtflidfmpmakggaaGreatDoor
def cutSLay_ren : Go.Shelf.Ren := ⟨fun | 104 => 57 | 211 => 106 | 207 => 158 | n => n, fun | 9 => 9 | 4 => 4 | 24 => 127 | 3 => 3 | 20 => 20 | n => n, fun | n => n⟩
theorem cutSLay : Go.Proofs.Lays.n104 Tryz.prog cutSLay_ren := {
  mixed := by kernel_rfl,
  f104 := Tryz.func57.trans (congrArg some (by kernel_rfl)),
  f207 := Tryz.func158.trans (congrArg some (by kernel_rfl)),
  f211 := Tryz.func106.trans (congrArg some (by kernel_rfl)),
  t3 := Tryz.underlying3,
  a3 := Tryz.isAgg3,
  z3 := Tryz.sizeOf3,
  v3 := Tryz.zeroValue3,
  t4 := Tryz.underlying4,
  a4 := Tryz.isAgg4,
  z4 := Tryz.sizeOf4,
  v4 := Tryz.zeroValue4,
  t9 := Tryz.underlying9,
  a9 := Tryz.isAgg9,
  z9 := Tryz.sizeOf9,
  v9 := Tryz.zeroValue9,
  t24 := Tryz.underlying127,
  a24 := Tryz.isAgg127,
  z24 := Tryz.sizeOf127,
  v24 := Tryz.zeroValue127 }
-- written by shelflay.py for the seat YtflidfmpmakggaaGreatDoor
def splitLay_ren : Go.Shelf.Ren := ⟨fun | 146 => 69 | 221 => 117 | 268 => 171 | 138 => 172 | 143 => 173 | 195 => 217 | 197 => 218 | 218 => 219 | 219 => 159 | 260 => 239 | 217 => 157 | 225 => 203 | 224 => 204 | 267 => 205 | 266 => 202 | 314 => 229 | n => n, fun | 9 => 9 | 31 => 58 | 3 => 3 | 4 => 4 | 0 => 0 | 105 => 301 | 21 => 21 | 5 => 5 | 46 => 293 | 119 => 329 | 139 => 332 | 138 => 331 | 146 => 309 | 51 => 306 | 20 => 20 | n => n, fun | 1 => 3 | 3 => 7 | 4 => 8 | n => n⟩
theorem splitLay : Go.Proofs.Lays.n146 Tryz.prog splitLay_ren := {
  mixed := by kernel_rfl,
  f138 := Tryz.func172.trans (congrArg some (by kernel_rfl)),
  f143 := Tryz.func173.trans (congrArg some (by kernel_rfl)),
  f146 := Tryz.func69.trans (congrArg some (by kernel_rfl)),
  f195 := Tryz.func217.trans (congrArg some (by kernel_rfl)),
  f197 := Tryz.func218.trans (congrArg some (by kernel_rfl)),
  f217 := Tryz.func157.trans (congrArg some (by kernel_rfl)),
  f218 := Tryz.func219.trans (congrArg some (by kernel_rfl)),
  f219 := Tryz.func159.trans (congrArg some (by kernel_rfl)),
  f221 := Tryz.func117.trans (congrArg some (by kernel_rfl)),
  f224 := Tryz.func204.trans (congrArg some (by kernel_rfl)),
  f225 := Tryz.func203.trans (congrArg some (by kernel_rfl)),
  f260 := Tryz.func239.trans (congrArg some (by kernel_rfl)),
  f266 := Tryz.func202.trans (congrArg some (by kernel_rfl)),
  f267 := Tryz.func205.trans (congrArg some (by kernel_rfl)),
  f268 := Tryz.func171.trans (congrArg some (by kernel_rfl)),
  f314 := Tryz.func229.trans (congrArg some (by kernel_rfl)),
  t0 := Tryz.underlying0,
  a0 := Tryz.isAgg0,
  z0 := Tryz.sizeOf0,
  v0 := Tryz.zeroValue0,
  t3 := Tryz.underlying3,
  a3 := Tryz.isAgg3,
  z3 := Tryz.sizeOf3,
  v3 := Tryz.zeroValue3,
  t4 := Tryz.underlying4,
  a4 := Tryz.isAgg4,
  z4 := Tryz.sizeOf4,
  v4 := Tryz.zeroValue4,
  t5 := Tryz.underlying5,
  a5 := Tryz.isAgg5,
  z5 := Tryz.sizeOf5,
  v5 := Tryz.zeroValue5,
  t9 := Tryz.underlying9,
  a9 := Tryz.isAgg9,
  z9 := Tryz.sizeOf9,
  v9 := Tryz.zeroValue9,
  t21 := Tryz.underlying21,
  a21 := Tryz.isAgg21,
  z21 := Tryz.sizeOf21,
  v21 := Tryz.zeroValue21,
  t31 := Tryz.underlying58,
  a31 := Tryz.isAgg58,
  z31 := Tryz.sizeOf58,
  v31 := Tryz.zeroValue58,
  t46 := Tryz.underlying293,
  a46 := Tryz.isAgg293,
  z46 := Tryz.sizeOf293,
  v46 := Tryz.zeroValue293,
  t51 := Tryz.underlying306,
  a51 := Tryz.isAgg306,
  z51 := Tryz.sizeOf306,
  v51 := Tryz.zeroValue306,
  t105 := Tryz.underlying301,
  a105 := Tryz.isAgg301,
  z105 := Tryz.sizeOf301,
  v105 := Tryz.zeroValue301,
  t119 := Tryz.underlying329,
  a119 := Tryz.isAgg329,
  z119 := Tryz.sizeOf329,
  t138 := Tryz.underlying331,
  a138 := Tryz.isAgg331,
  z138 := Tryz.sizeOf331,
  v138 := Tryz.zeroValue331,
  t139 := Tryz.underlying332,
  a139 := Tryz.isAgg332,
  z139 := Tryz.sizeOf332,
  v139 := Tryz.zeroValue332,
  t146 := Tryz.underlying309,
  a146 := Tryz.isAgg309,
  z146 := Tryz.sizeOf309,
  v146 := Tryz.zeroValue309,
  g1 := by kernel_rfl,
  g3 := by kernel_rfl,
  g4 := by kernel_rfl }
-- written by shelflay.py for the seat YtflidfmpmakggaaGreatDoor
def splitNLay_ren : Go.Shelf.Ren := ⟨fun | 147 => 108 | 221 => 117 | 268 => 171 | 138 => 172 | 143 => 173 | 195 => 217 | 197 => 218 | 218 => 219 | 219 => 159 | 260 => 239 | 217 => 157 | 225 => 203 | 224 => 204 | 267 => 205 | 266 => 202 | 314 => 229 | n => n, fun | 9 => 9 | 3 => 3 | 31 => 58 | 4 => 4 | 0 => 0 | 105 => 301 | 21 => 21 | 5 => 5 | 46 => 293 | 119 => 329 | 139 => 332 | 138 => 331 | 146 => 309 | 51 => 306 | 20 => 20 | n => n, fun | 1 => 3 | 3 => 7 | 4 => 8 | n => n⟩
theorem splitNLay : Go.Proofs.Lays.n147 Tryz.prog splitNLay_ren := {
  mixed := by kernel_rfl,
  f138 := Tryz.func172.trans (congrArg some (by kernel_rfl)),
  f143 := Tryz.func173.trans (congrArg some (by kernel_rfl)),
  f147 := Tryz.func108.trans (congrArg some (by kernel_rfl)),
  f195 := Tryz.func217.trans (congrArg some (by kernel_rfl)),
  f197 := Tryz.func218.trans (congrArg some (by kernel_rfl)),
  f217 := Tryz.func157.trans (congrArg some (by kernel_rfl)),
  f218 := Tryz.func219.trans (congrArg some (by kernel_rfl)),
  f219 := Tryz.func159.trans (congrArg some (by kernel_rfl)),
  f221 := Tryz.func117.trans (congrArg some (by kernel_rfl)),
  f224 := Tryz.func204.trans (congrArg some (by kernel_rfl)),
  f225 := Tryz.func203.trans (congrArg some (by kernel_rfl)),
  f260 := Tryz.func239.trans (congrArg some (by kernel_rfl)),
  f266 := Tryz.func202.trans (congrArg some (by kernel_rfl)),
  f267 := Tryz.func205.trans (congrArg some (by kernel_rfl)),
  f268 := Tryz.func171.trans (congrArg some (by kernel_rfl)),
  f314 := Tryz.func229.trans (congrArg some (by kernel_rfl)),
  t0 := Tryz.underlying0,
  a0 := Tryz.isAgg0,
  z0 := Tryz.sizeOf0,
  v0 := Tryz.zeroValue0,
  t3 := Tryz.underlying3,
  a3 := Tryz.isAgg3,
  z3 := Tryz.sizeOf3,
  v3 := Tryz.zeroValue3,
  t4 := Tryz.underlying4,
  a4 := Tryz.isAgg4,
  z4 := Tryz.sizeOf4,
  v4 := Tryz.zeroValue4,
  t5 := Tryz.underlying5,
  a5 := Tryz.isAgg5,
  z5 := Tryz.sizeOf5,
  v5 := Tryz.zeroValue5,
  t9 := Tryz.underlying9,
  a9 := Tryz.isAgg9,
  z9 := Tryz.sizeOf9,
  v9 := Tryz.zeroValue9,
  t21 := Tryz.underlying21,
  a21 := Tryz.isAgg21,
  z21 := Tryz.sizeOf21,
  v21 := Tryz.zeroValue21,
  t31 := Tryz.underlying58,
  a31 := Tryz.isAgg58,
  z31 := Tryz.sizeOf58,
  v31 := Tryz.zeroValue58,
  t46 := Tryz.underlying293,
  a46 := Tryz.isAgg293,
  z46 := Tryz.sizeOf293,
  v46 := Tryz.zeroValue293,
  t51 := Tryz.underlying306,
  a51 := Tryz.isAgg306,
  z51 := Tryz.sizeOf306,
  v51 := Tryz.zeroValue306,
  t105 := Tryz.underlying301,
  a105 := Tryz.isAgg301,
  z105 := Tryz.sizeOf301,
  v105 := Tryz.zeroValue301,
  t119 := Tryz.underlying329,
  a119 := Tryz.isAgg329,
  z119 := Tryz.sizeOf329,
  t138 := Tryz.underlying331,
  a138 := Tryz.isAgg331,
  z138 := Tryz.sizeOf331,
  v138 := Tryz.zeroValue331,
  t139 := Tryz.underlying332,
  a139 := Tryz.isAgg332,
  z139 := Tryz.sizeOf332,
  v139 := Tryz.zeroValue332,
  t146 := Tryz.underlying309,
  a146 := Tryz.isAgg309,
  z146 := Tryz.sizeOf309,
  v146 := Tryz.zeroValue309,
  g1 := by kernel_rfl,
  g3 := by kernel_rfl,
  g4 := by kernel_rfl }
-- written by shelflay.py for the seat YtflidfmpmakggaaGreatDoor
def idxBLay_ren : Go.Shelf.Ren := ⟨fun | 137 => 105 | 217 => 157 | 266 => 202 | n => n, fun | 9 => 9 | 5 => 5 | 3 => 3 | 20 => 20 | n => n, fun | n => n⟩
theorem idxBLay : Go.Proofs.Lays.n137 Tryz.prog idxBLay_ren := {
  mixed := by kernel_rfl,
  f137 := Tryz.func105.trans (congrArg some (by kernel_rfl)),
  f217 := Tryz.func157.trans (congrArg some (by kernel_rfl)),
  f266 := Tryz.func202.trans (congrArg some (by kernel_rfl)),
  t3 := Tryz.underlying3,
  a3 := Tryz.isAgg3,
  z3 := Tryz.sizeOf3,
  v3 := Tryz.zeroValue3,
  t5 := Tryz.underlying5,
  a5 := Tryz.isAgg5,
  z5 := Tryz.sizeOf5,
  v5 := Tryz.zeroValue5,
  t9 := Tryz.underlying9,
  a9 := Tryz.isAgg9,
  z9 := Tryz.sizeOf9,
  v9 := Tryz.zeroValue9 }

theorem len_size (s : ByteArray) : s.data.toList.length = s.size := by rw [Array.length_toList]; rfl
theorem tx_cut (s : ByteArray) (c : UInt8) (w : World) (h : TxP w) (hs : s.size < 4294967281) :
    Calls Tryz.prog 58 #[.string s, .string ⟨#[c]⟩] w fun e w' => e = .returned (.tuple #[.string (bs (Lib.cut s.data.toList [c]).1), .string (bs (Lib.cut s.data.toList [c]).2.1), .bool (Lib.cut s.data.toList [c]).2.2]) ∧ Below w.heap.size w w' := by
  obtain ⟨m, hm⟩ := h.len
  refine (Any.strings_Cut cutLay s ⟨#[c]⟩ m w hs hm).mono fun e w' ⟨he, n, hw⟩ => ⟨he, ?_⟩
  rw [hw]
  exact below_drewN (Below.refl _ _) n
theorem tx_cutSuffix (s : ByteArray) (c : UInt8) (w : World) (hs : s.size ≤ 9223372036854775807) :
    Calls Tryz.prog 57 #[.string s, .string ⟨#[c]⟩] w fun e w' => e = .returned (.tuple #[.string (bs (Lib.trimSuffix s.data.toList [c])), .bool (Lib.hasSuffix s.data.toList [c])]) ∧ w = w' :=
  (Any.strings_CutSuffix cutSLay s ⟨#[c]⟩ w hs).mono fun _ _ ⟨he, hw⟩ => ⟨he, hw.symm⟩
theorem tx_idxByte (s : ByteArray) (c : Int) (w : World) :
    Calls Tryz.prog 105 #[.string s, .int .u8 c] w fun e w' => e = .returned (.int .i64 (Lib.indexByte s.data.toList c.toNat.toUInt8)) ∧ w = w' :=
  (Any.strings_IndexByte idxBLay s c w).mono fun _ _ ⟨he, hw⟩ => ⟨he, hw.symm⟩
/-- A new row of texts. -/
theorem sl_texts {w : World} {b c : Nat} {t : TypeId} {fr : Nat × Nat} {cs : List Value} (xs : List ByteArray) (h : w.heap[b]? = some (.cells cs.toArray t fr)) (hc : ∀ (j : Nat) (x : ByteArray), xs[j]? = some x → cs[j]? = some (Value.string x)) (hx : ∀ x ∈ xs, Sm x) (h1 : xs.length ≤ c) (h2 : c ≤ maxLen) :
    Sl strL w (.slice (some ⟨b, 0, none⟩) xs.length c) xs := by
  refine ⟨_, c, rfl, h1, h2, fun i d hi => ⟨b, 0, _, rfl, ⟨rfl, hx d (List.mem_of_getElem? hi)⟩, fun j u hj => ?_⟩⟩
  rw [block_cell h]
  match j, hj with
  | 0, hj =>
    simp only [List.getElem?_cons_zero, Option.some.injEq] at hj
    subst hj
    have := hc i d hi
    simpa [strL, flatL] using this
theorem split_len (c : UInt8) : ∀ (n : Nat) (l : List UInt8), l.length ≤ n → (∀ x ∈ Lib.split l [c], x.length ≤ l.length) ∧ (Lib.split l [c]).length ≤ l.length + 1
  | n, l, hn => by
    rcases first_sign c l with h | ⟨a, r, rfl, h⟩
    · rw [split_no h]
      exact ⟨fun x hx => by rcases List.mem_singleton.1 hx with rfl; exact Nat.le_refl _, by simp⟩
    · cases n with
      | zero => simp at hn
      | succ n =>
        obtain ⟨i1, i2⟩ := split_len c n r (by simp at hn; omega)
        rw [split_sign h]
        refine ⟨fun x hx => ?_, ?_⟩
        · rcases List.mem_cons.1 hx with rfl | hx
          · simp
          · have := i1 x hx; simp; omega
        · simp only [List.length_cons, List.length_append]; omega
theorem splitN_len (c : UInt8) (l : List UInt8) : ∀ x ∈ Lib.splitN l [c] 3, x.length ≤ l.length := by
  unfold Lib.splitN
  generalize min 3 (l.length + 1) - 1 = k
  have key : ∀ (k : Nat) (l : List UInt8), ∀ x ∈ Lib.splitK [c] 0 k l, x.length ≤ l.length := by
    intro k
    induction k with
    | zero => intro l x hx; rcases List.mem_singleton.1 hx with rfl; exact Nat.le_refl _
    | succ k ih =>
      intro l x hx
      rcases first_sign c l with h | ⟨a, r, rfl, h⟩
      · rw [splitK_no h] at hx
        rcases List.mem_singleton.1 hx with rfl; exact Nat.le_refl _
      · rw [splitK_hit1 h] at hx
        rcases List.mem_cons.1 hx with rfl | hx
        · simp
        · have := ih r x hx; simp; omega
  exact key k l
theorem tx_split (s : ByteArray) (c : UInt8) (w : World) (h : TxP w) (hs : Sm s) :
    Calls Tryz.prog 69 #[.string s, .string ⟨#[c]⟩] w fun e w' => e = .returned (.slice (some ⟨w.heap.size, 0, none⟩) (Lib.split s.data.toList [c]).length (Lib.split s.data.toList [c]).length) ∧ Sl strL w' (.slice (some ⟨w.heap.size, 0, none⟩) (Lib.split s.data.toList [c]).length (Lib.split s.data.toList [c]).length) ((Lib.split s.data.toList [c]).map bs) ∧ Below w.heap.size w w' := by
  obtain ⟨m, hm⟩ := h.len
  unfold Sm at hs
  have hl := len_size s
  refine (Any.strings_Split splitLay str_info s ⟨#[c]⟩ m w (by omega) hm (Nat.le_refl 1)).mono fun e w' ⟨he, hw⟩ => ?_
  have e1 : (Lib.splitB ⟨#[c]⟩ 0 (Lib.countB s ⟨#[c]⟩) s).map (·.data.toList) = Lib.split s.data.toList [c] := Lib.splitB_data _ _ _ _
  have e2 : Lib.splitB ⟨#[c]⟩ 0 (Lib.countB s ⟨#[c]⟩) s = (Lib.split s.data.toList [c]).map bs := by
    rw [← e1, list_bs]
  have e3 : Lib.countB s ⟨#[c]⟩ + 1 = (Lib.split s.data.toList [c]).length := by
    rw [← e1, List.length_map, Lib.splitB_all ⟨#[c]⟩ (Nat.le_refl 1) 0 _ s rfl]
  obtain ⟨p1, p2⟩ := split_len c _ s.data.toList (Nat.le_refl _)
  refine ⟨by rw [he, e3], ?_, by rw [hw]; exact (Below.refl _ _).alloc (Nat.le_refl _) _⟩
  have := sl_texts (w := w') (b := w.heap.size) (c := (Lib.split s.data.toList [c]).length) (cs := ((Lib.split s.data.toList [c]).map bs).map Value.string) ((Lib.split s.data.toList [c]).map bs) (by rw [hw, e2]; exact heap_alloc_new _ _) (fun j x hj => by rw [List.getElem?_map, hj]; rfl)
    (fun x hx => by
      obtain ⟨y, hy, rfl⟩ := List.mem_map.1 hx
      have := p1 y hy
      unfold Sm; rw [bs_size]; omega) (by rw [List.length_map]; exact Nat.le_refl _) (by unfold maxLen; omega)
  rw [List.length_map] at this
  exact this
theorem tx_splitN (s : ByteArray) (c : UInt8) (w : World) (h : TxP w) (hs : Sm s) :
    Calls Tryz.prog 108 #[.string s, .string ⟨#[c]⟩, .int .i64 3] w fun e w' => ∃ k, e = .returned (.slice (some ⟨w.heap.size, 0, none⟩) (Lib.splitN s.data.toList [c] 3).length k) ∧ Sl strL w' (.slice (some ⟨w.heap.size, 0, none⟩) (Lib.splitN s.data.toList [c] 3).length k) ((Lib.splitN s.data.toList [c] 3).map bs) ∧ Below w.heap.size w w' := by
  obtain ⟨m, hm⟩ := h.len
  unfold Sm at hs
  have hl := len_size s
  refine (Any.strings_SplitN splitNLay str_info s ⟨#[c]⟩ 3 m w (by omega) hm (Nat.le_refl 1) (by omega) (by omega)).mono fun e w' ⟨he, hw⟩ => ⟨min 3 (s.size + 1), ?_⟩
  have e1 : (Lib.splitB ⟨#[c]⟩ 0 (min 3 (s.size + 1) - 1) s).map (·.data.toList) = Lib.splitN s.data.toList [c] 3 := by
    unfold Lib.splitN
    rw [hl]
    exact Lib.splitB_data _ _ _ _
  have e2 : Lib.splitB ⟨#[c]⟩ 0 (min 3 (s.size + 1) - 1) s = (Lib.splitN s.data.toList [c] 3).map bs := by
    rw [← e1, list_bs]
  have e3 : (Lib.splitB ⟨#[c]⟩ 0 (min 3 (s.size + 1) - 1) s).length = (Lib.splitN s.data.toList [c] 3).length := by
    rw [← e1, List.length_map]
  have e4 := Lib.splitB_length_le ⟨#[c]⟩ 0 (min 3 (s.size + 1) - 1) s
  rw [e3] at e4 he
  refine ⟨he, ?_, by rw [hw]; exact (Below.refl _ _).alloc (Nat.le_refl _) _⟩
  have := sl_texts (w := w') (b := w.heap.size) (c := min 3 (s.size + 1)) (cs := ((Lib.splitN s.data.toList [c] 3).map bs).map Value.string ++ List.replicate (min 3 (s.size + 1) - ((Lib.splitN s.data.toList [c] 3).map bs).length) (Value.string ByteArray.empty)) ((Lib.splitN s.data.toList [c] 3).map bs) (by rw [hw, e2]; exact heap_alloc_new _ _) (fun j x hj => by
      have hlt := (List.getElem?_eq_some_iff.1 hj).1
      rw [List.getElem?_append_left (by rw [List.length_map]; exact hlt), List.getElem?_map, hj]; rfl)
    (fun x hx => by
      obtain ⟨y, hy, rfl⟩ := List.mem_map.1 hx
      have := splitN_len c _ y hy
      unfold Sm; rw [bs_size]; omega) (by rw [List.length_map]; omega) (by unfold maxLen; omega)
  rw [List.length_map] at this
  exact this
open Go Go.RowKit Go.Shelf

attribute [local go_sem] Oper.semAt_some
theorem idxByte_no {l : List UInt8} {c : UInt8} (h : noB c l) : Lib.indexByte l c = -1 := by
  rcases Int.lt_or_le (Lib.indexByte l c) 0 with h1 | h1
  · have := Lib.indexByte_ge l c; omega
  · obtain ⟨o, ho⟩ : ∃ o : Nat, Lib.indexByte l c = o := ⟨(Lib.indexByte l c).toNat, by omega⟩
    exact absurd rfl (h c (List.mem_of_getElem? (Lib.indexByte_some ho).1))
theorem idxByte_hit {c : UInt8} {a r : List UInt8} (h : noB c a) : Lib.indexByte (a ++ c :: r) c = a.length := by
  have hn : Lib.indexByte (a ++ c :: r) c ≠ -1 := fun e => Lib.indexByte_none e a.length (by simp)
  have hg := Lib.indexByte_ge (a ++ c :: r) c
  obtain ⟨o, ho⟩ : ∃ o : Nat, Lib.indexByte (a ++ c :: r) c = o := ⟨(Lib.indexByte (a ++ c :: r) c).toNat, by omega⟩
  obtain ⟨h1, h2⟩ := Lib.indexByte_some ho
  rw [ho]
  rcases Nat.lt_trichotomy o a.length with h3 | h3 | h3
  · rw [List.getElem?_append_left h3] at h1
    exact absurd rfl (h c (List.mem_of_getElem? h1))
  · rw [h3]
  · exact absurd (by simp) (h2 a.length h3)
/-- What the iterator does between the rounds: draws, and stores into its box. -/
def LStep (q : Nat) (X Y : World) : Prop := (∃ m, Y = X.drewN m) ∨ ∃ v m, Y = (X.setCell ⟨q, 0, none⟩ v).drewN m
/-- What a round keeps: the iterator's box, and what lay below n. -/
def LKeep (n q : Nat) (X Y : World) : Prop := Below n X Y ∧ Y.heap[q]? = X.heap[q]?
/-- How much text is left in the box. -/
def leftIn (q : Nat) (w : World) : Nat := match w.cell? ⟨q, 0, none⟩ with | some (.string s) => s.size | _ => 0
theorem left_of {q : Nat} {w : World} {s : ByteArray} {t : TypeId} (h : w.heap[q]? = some (.cells #[.string s] t (0, 0))) : leftIn q w = s.size := by
  unfold leftIn
  have : w.cell? ⟨q, 0, none⟩ = some (.string s) := block_cell h 0
  rw [this]
/-- A line that is not too long. -/
abbrev Ln := { x : List UInt8 // x.length ≤ 1048576 }
def lnL (pre : List Ln) : List (List UInt8) := pre.map fun x => x.1
theorem lnL_snoc (pre : List Ln) (x : Ln) : lnL (pre ++ [x]) = lnL pre ++ [x.1] := by unfold lnL; rw [List.map_append]; rfl
set_option maxRecDepth 100000 in
set_option maxHeartbeats 4000000 in
theorem lines1_in (n : Nat) (hn : 1 ≤ n) (B q : Nat) (_hq : B ≤ q) (l : List UInt8) (hl : l.length ≤ 1048576) (w : World) (hqw : w.heap[q]? = some (.cells #[.string (bs l)] 9 (0, 0))) (_hBw : B ≤ w.heap.size) :
    Stirs Fence.wide n Tryz.prog 104 #[.pointer (some ⟨q, 0, none⟩)] (fun x : Ln => #[.string (bs x.1)]) (LKeep B q) (LStep q) (fun xs => lnL xs = linesL l) (fun pre => lnL pre <+: linesL l) w := by
  intro lr J Jx W hW hJ hJx hY h0
  have hqW := (hW.block _ (Array.getElem?_eq_some_iff.1 hqw).1).trans hqw
  have HJ := Lib.hid hJ
  clear hW hqw
  refine callsIn_of_wp Tryz.func104 rfl trivial ?_ rfl
  simp only [Tryz.ntmps104, List.size_toArray, List.length_cons, List.length_nil, Nat.reduceAdd, Nat.reduceSub, Array.replicate_succ, Array.replicate_zero, List.push_toArray, List.append_toArray, List.nil_append, List.cons_append]
  gi_wp2
  gi_loopw [3, 4] (fun _ _ wr => ∃ (pre : List Ln) (rest : List UInt8), J pre wr ∧ wr.heap[q]? = some (.cells #[.string (bs rest)] 9 (0, 0)) ∧ Hid (lnL pre ++ linesL rest = linesL l) ∧ rest.length ≤ 1048576) (fun _ _ wr => leftIn q wr)
  case atStart => exact ⟨[], l, h0, hqW, rfl, hl⟩
  case round =>
    obtain ⟨pre, rest, hJs, hqr, HP, hrl⟩ := hrel
    have c0 := block_cell hqr 0
    have f0 := block_free hqr 0
    have hsz : (bs rest).size = rest.length := bs_size rest
    have HSZ := Lib.hid hsz
    by_cases he : rest = []
    · subst he
      have h0b : decide ((0 : Int) < ((bs ([] : List UInt8)).size : Int)) = false := rfl
      clear hsz
      gi_wp2
      go_end0
      have hp := HP.out
      rw [lines_nil, List.append_nil] at hp
      exact ⟨⟨_, rfl⟩, .inl ⟨_, hp, hJs⟩⟩
    · have hpos : (0 : Int) < ((bs rest).size : Int) := by
        rw [hsz]
        have : 0 < rest.length := List.length_pos_iff.2 he
        omega
      have hx := (callsIn_wide (n := n - 1)).2 (tx_idxByte (bs rest) 10 wr)
      rw [bs_list, show (10 : Int).toNat.toUInt8 = (10 : UInt8) from rfl] at hx
      clear hsz
      rcases first_sign 10 rest with hno | ⟨a, r, rfl, hno⟩
      · rw [idxByte_no hno] at hx
        have HL := Lib.hid (lines_no hno he)
        have hpos1 : (bs []).size < (bs rest).size := by rw [bs_size, bs_size]; exact List.length_pos_iff.2 he
        have HX : Hid (lnL (pre ++ [⟨rest, hrl⟩]) <+: linesL l) := by unfold Hid; rw [← HP.out, HL.out, lnL_snoc]; exact List.prefix_refl _
        obtain ⟨fn, tmps, assign, body, hy, hR⟩ := hY pre ⟨rest, hrl⟩ (wr.setCell ⟨q, 0, none⟩ (.string ⟨#[]⟩)) HX.out (HJ.out _ _ _ hJs (.inr ⟨_, 0, rfl⟩))
        have hq2 := setCell_block hqr 0 (.string ⟨#[]⟩)
        clear hno he
        gi_wp2_with (refine ⟨trivial, ?_⟩; gi_at_call 105; refine hx.mono ?_; rintro e w2 ⟨rfl, rfl⟩)
        refine hR.mono ?_
        rintro e W3 (⟨rfl, hJ3, hk3⟩ | ⟨rfl, hJx3⟩)
        · have hq3 : W3.heap[q]? = some (.cells #[.string (bs [])] 9 (0, 0)) := hk3.2.trans hq2
          clear hR hy hq2 c0 f0
          gi_wp2
          go_roundw
          case rel => exact ⟨pre ++ [⟨rest, hrl⟩], [], hJ3, hq3, by unfold Hid; rw [lines_nil, List.append_nil, ← HP.out, HL.out, lnL_snoc], Nat.zero_le _⟩
          case measure => rw [left_of hq3, left_of hqr]; exact hpos1
        · clear hR hy hq2 c0 f0
          gi_wp2
          refine bodyPost_ret (results_none rfl _ _ _) rfl ?_
          exact ⟨⟨_, rfl⟩, .inr ⟨_, HX.out, hJx3⟩⟩
      · rw [idxByte_hit hno] at hx
        have HL := Lib.hid (lines_sign (r := r) hno)
        have hal : (bs (a ++ 10 :: r)).size = a.length + 1 + r.length := by rw [bs_size]; simp; omega
        have hal1 : (a.length : Int) + 1 ≤ ((bs (a ++ 10 :: r)).size : Int) := by rw [hal]; omega
        have HAL := Lib.hid hal
        clear hno he hal
        gi_wp2_with (refine ⟨trivial, ?_⟩; gi_at_call 105; refine hx.mono ?_; rintro e w2 ⟨rfl, rfl⟩)
        have hrl2 : a.length + 1 + r.length ≤ 1048576 := by simp at hrl; omega
        have hwr : wrap64 ((a.length : Int) + 1) = (a.length : Int) + 1 := IntWalk.wrap64_in _ (by omega)
        have hw0 : (0 : Int) ≤ (a.length : Int) + 1 := by omega
        have hwn : ((a.length : Int) + 1).toNat = a.length + 1 := by omega
        gi_region
        have hE1 : (bs (a ++ 10 :: r)).extract 0 (a.length + 1) = bs (a ++ [10]) := by
          rw [ext_list, bs_list]
          have : a ++ 10 :: r = (a ++ [10]) ++ r := by simp
          rw [this, List.drop_zero, Nat.sub_zero, List.take_left' (by simp)]
        have hE2 : (bs (a ++ 10 :: r)).extract (a.length + 1) (bs (a ++ 10 :: r)).size = bs r := by
          rw [ext_list, bs_list, drop_behind, HAL.out]
          rw [List.take_of_length_le (by omega)]
        rw [hE1, hE2]
        clear hE1 hE2 hwr hwn
        have hal2 : (a ++ [10]).length ≤ 1048576 := by simp; omega
        have HX : Hid (lnL (pre ++ [⟨a ++ [10], hal2⟩]) <+: linesL l) := by unfold Hid; rw [← HP.out, HL.out, lnL_snoc]; exact ⟨linesL r, by simp⟩
        obtain ⟨fn, tmps, assign, body, hy, hR⟩ := hY pre ⟨a ++ [10], hal2⟩ (wr.setCell ⟨q, 0, none⟩ (.string (bs r))).drew HX.out (HJ.out _ _ _ hJs (.inr ⟨_, 1, rfl⟩))
        have hq2 : (wr.setCell ⟨q, 0, none⟩ (.string (bs r))).drew.heap[q]? = some (.cells #[.string (bs r)] 9 (0, 0)) := setCell_block hqr 0 (.string (bs r))
        clear hY
        gi_wp2
        refine hR.mono ?_
        rintro e W3 (⟨rfl, hJ3, hk3⟩ | ⟨rfl, hJx3⟩)
        · have hq3 : W3.heap[q]? = some (.cells #[.string (bs r)] 9 (0, 0)) := hk3.2.trans hq2
          clear hR hy hq2 c0 f0
          gi_wp2
          go_roundw
          case rel => exact ⟨pre ++ [⟨a ++ [10], hal2⟩], r, hJ3, hq3, by unfold Hid; rw [← HP.out, HL.out, lnL_snoc]; simp, by omega⟩
          case measure => rw [left_of hq3, left_of hqr, HAL.out, bs_size]; omega
        · clear hR hy hq2 c0 f0
          gi_wp2
          refine bodyPost_ret (results_none rfl _ _ _) rfl ?_
          exact ⟨⟨_, rfl⟩, .inr ⟨_, HX.out, hJx3⟩⟩
theorem lines_ne : ∀ (n : Nat) (l : List UInt8), l.length ≤ n → ∀ x ∈ linesL l, x ≠ []
  | n, l, hn, x, hx => by
    rcases cut_cases 10 l with ⟨_, hno⟩ | ⟨a, r, rfl, ha, _⟩
    · by_cases h0 : l = []
      · subst h0; rw [lines_nil] at hx; cases hx
      · rw [lines_no hno h0] at hx
        rw [List.mem_singleton.1 hx]; exact h0
    · rw [lines_sign ha] at hx
      rcases List.mem_cons.1 hx with rfl | hx
      · simp
      · have hlen : (a ++ 10 :: r).length = a.length + r.length + 1 := by simp; omega
        match n, hn with
        | 0, hn => omega
        | n + 1, hn => exact lines_ne n r (by omega) x hx
theorem flatten_ge : ∀ (L : List (List UInt8)), (∀ x ∈ L, x ≠ []) → L.length ≤ L.flatten.length
  | [], _ => Nat.zero_le _
  | x :: L, h => by
    have h1 := List.length_pos_iff.2 (h x (by simp))
    have h2 := flatten_ge L fun y hy => h y (by simp [hy])
    simp only [List.flatten_cons, List.length_append, List.length_cons]; omega
theorem lines_len (l : List UInt8) : (linesL l).length ≤ l.length := by
  have := flatten_ge (linesL l) (lines_ne _ l (Nat.le_refl _))
  rw [lines_whole _ l (Nat.le_refl _)] at this
  exact this
theorem lnL_len (pre : List Ln) : (lnL pre).length = pre.length := by unfold lnL; simp
end Go.Proofs.YtflidfmpmakggaaGreatDoor
