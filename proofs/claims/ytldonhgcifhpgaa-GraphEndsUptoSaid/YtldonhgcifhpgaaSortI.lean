/- Contract: slices.Sort at whole numbers, at a row of the call's own. No condition. -/
import Derived.Test.YtldonhgcifhpgaaOwn
import Derived.Test.YtldonhgcifhpgaaRows
import Derived.Shelf.SortM.Plain
import Derived.Shelf.SortM.SortNone
import Derived.Ground.SlgmProg
namespace Go.Proofs.Ytldonhgcifhpgaa
open Go Go.RowKit Go.Sort Go.Proofs

-- written by sortlay.py for the seat Ytldonhgcifhpgaa
def sortLay_ren : Go.Shelf.Ren := ⟨fun | 5 => 134 | 8 => 158 | 7 => 157 | 19 => 178 | 20 => 179 | 10 => 169 | 11 => 170 | 12 => 171 | 13 => 172 | 14 => 173 | 15 => 174 | 16 => 175 | 17 => 176 | 18 => 177 | 30 => 185 | 31 => 186 | 32 => 187 | 33 => 188 | 34 => 189 | 35 => 130 | 40 => 193 | n => n, fun | 23 => 75 | 25 => 3 | 3 => 3 | 32 => 193 | 22 => 75 | 0 => 0 | 44 => 238 | 46 => 240 | 4 => 4 | 36 => 231 | 35 => 230 | 41 => 105 | 5 => 5 | 9 => 9 | 53 => 242 | 57 => 246 | 63 => 251 | 64 => 252 | n => n, fun | n => n⟩
theorem sortLay : Go.Proofs.SlLaysM.n5 Try.prog sortLay_ren := {
  mixed := by kernel_rfl,
  f5 := ⟨Try.f134.name, by decide, Try.func134.trans (congrArg some (by kernel_rfl))⟩,
  f7 := ⟨Try.f157.name, by decide, Try.func157.trans (congrArg some (by kernel_rfl))⟩,
  f8 := Try.func158.trans (congrArg some (by kernel_rfl)),
  f10 := ⟨Try.f169.name, by decide, Try.func169.trans (congrArg some (by kernel_rfl))⟩,
  f11 := ⟨Try.f170.name, by decide, Try.func170.trans (congrArg some (by kernel_rfl))⟩,
  f12 := ⟨Try.f171.name, by decide, Try.func171.trans (congrArg some (by kernel_rfl))⟩,
  f13 := ⟨Try.f172.name, by decide, Try.func172.trans (congrArg some (by kernel_rfl))⟩,
  f14 := ⟨Try.f173.name, by decide, Try.func173.trans (congrArg some (by kernel_rfl))⟩,
  f15 := ⟨Try.f174.name, by decide, Try.func174.trans (congrArg some (by kernel_rfl))⟩,
  f16 := ⟨Try.f175.name, by decide, Try.func175.trans (congrArg some (by kernel_rfl))⟩,
  f17 := ⟨Try.f176.name, by decide, Try.func176.trans (congrArg some (by kernel_rfl))⟩,
  f18 := ⟨Try.f177.name, by decide, Try.func177.trans (congrArg some (by kernel_rfl))⟩,
  f19 := Try.func178.trans (congrArg some (by kernel_rfl)),
  f20 := Try.func179.trans (congrArg some (by kernel_rfl)),
  f30 := ⟨Try.f185.name, by decide, Try.func185.trans (congrArg some (by kernel_rfl))⟩,
  f31 := Try.func186.trans (congrArg some (by kernel_rfl)),
  f32 := Try.func187.trans (congrArg some (by kernel_rfl)),
  f33 := ⟨Try.f188.name, by decide, Try.func188.trans (congrArg some (by kernel_rfl))⟩,
  f34 := ⟨Try.f189.name, by decide, Try.func189.trans (congrArg some (by kernel_rfl))⟩,
  f35 := ⟨Try.f130.name, by decide, Try.func130.trans (congrArg some (by kernel_rfl))⟩,
  f40 := ⟨Try.f193.name, by decide, Try.func193.trans (congrArg some (by kernel_rfl))⟩,
  t0 := Try.underlying0,
  a0 := Try.isAgg0,
  z0 := Try.sizeOf0,
  v0 := Try.zeroValue0,
  t3 := Try.underlying3,
  a3 := Try.isAgg3,
  z3 := Try.sizeOf3,
  v3 := Try.zeroValue3,
  t4 := Try.underlying4,
  a4 := Try.isAgg4,
  z4 := Try.sizeOf4,
  v4 := Try.zeroValue4,
  t5 := Try.underlying5,
  a5 := Try.isAgg5,
  z5 := Try.sizeOf5,
  v5 := Try.zeroValue5,
  t9 := Try.underlying9,
  a9 := Try.isAgg9,
  z9 := Try.sizeOf9,
  v9 := Try.zeroValue9,
  t22 := Try.underlying75,
  a22 := Try.isAgg75,
  z22 := Try.sizeOf75,
  v22 := Try.zeroValue75,
  t23 := Try.underlying75,
  a23 := Try.isAgg75,
  z23 := Try.sizeOf75,
  v23 := Try.zeroValue75,
  t25 := Try.underlying3,
  a25 := Try.isAgg3,
  z25 := Try.sizeOf3,
  v25 := Try.zeroValue3,
  t32 := Try.underlying193,
  a32 := Try.isAgg193,
  z32 := Try.sizeOf193,
  v32 := Try.zeroValue193,
  t35 := Try.underlying230,
  a35 := Try.isAgg230,
  z35 := Try.sizeOf230,
  v35 := Try.zeroValue230,
  t36 := Try.underlying231,
  a36 := Try.isAgg231,
  z36 := Try.sizeOf231,
  v36 := Try.zeroValue231,
  t41 := Try.underlying105,
  a41 := Try.isAgg105,
  z41 := Try.sizeOf105,
  v41 := Try.zeroValue105,
  t44 := Try.underlying238,
  a44 := Try.isAgg238,
  z44 := Try.sizeOf238,
  v44 := Try.zeroValue238,
  t46 := Try.underlying240,
  a46 := Try.isAgg240,
  z46 := Try.sizeOf240,
  v46 := Try.zeroValue240,
  t53 := Try.underlying242,
  a53 := Try.isAgg242,
  z53 := Try.sizeOf242,
  v53 := Try.zeroValue242,
  t57 := Try.underlying246,
  a57 := Try.isAgg246,
  z57 := Try.sizeOf246,
  v57 := Try.zeroValue246,
  t63 := Try.underlying251,
  a63 := Try.isAgg251,
  z63 := Try.sizeOf251,
  v63 := Try.zeroValue251,
  t64 := Try.underlying252,
  a64 := Try.isAgg252,
  z64 := Try.sizeOf252,
  v64 := Try.zeroValue252 }

theorem heap_sorted_at {w : World} {g o n : Nat} {os : Array Obj} {cur : Array Value} {e : TypeId} {fr : Nat × Nat} (d : Array Int) (hb : w.heap[g]? = some (.cells cur e fr)) :
    (grow (putRow (Value.int .i64) (Sort.ahead w n) g o d) os).heap[g]? = some (.cells (putCells (Value.int .i64) o d cur) e fr) := by
  have hg : g < w.heap.size := (Array.getElem?_eq_some_iff.1 hb).1
  rw [heap_grow_old _ _ (by simpa using hg)]
  simp [putRow, mapBlock, Sort.ahead, Array.getElem?_modify, hb, onCells]
theorem grownBy_sorted_at {w : World} {g o n : Nat} {os : Array Obj} (d : Array Int) : w.grownBy (grow (putRow (Value.int .i64) (Sort.ahead w n) g o d) os) (some g) := by
  refine ⟨rfl, rfl, rfl, by simp, fun k hk hne => ?_⟩
  rw [heap_grow_old _ _ (by simpa using hk)]
  have : g ≠ k := fun e => hne (by rw [e])
  simp [putRow, mapBlock, Sort.ahead, Array.getElem?_modify, this]
theorem putCells_at (o : Nat) (cur : Array Value) (ts : List Int) (h : o + ts.length ≤ cur.size) : ((putCells (Value.int .i64) o ts.toArray cur).toList.drop o).take ts.length = ts.map (Value.int .i64) := by
  apply List.ext_getElem?
  intro j
  by_cases hj : j < ts.length
  · rw [List.getElem?_take_of_lt hj, List.getElem?_drop, Array.getElem?_toList]
    simp [putCells, hj, show o + j < cur.size by omega]
  · rw [List.getElem?_take_eq_none (by omega), List.getElem?_eq_none (by simp; omega)]
/-- Sorted, in place. -/
def sortI (l : List Int) : List Int := l.mergeSort fun x y => decide (x ≤ y)
theorem sortI_perm (l : List Int) : (sortI l).Perm l := List.mergeSort_perm _ _
theorem sortI_len (l : List Int) : (sortI l).length = l.length := (sortI_perm l).length_eq
theorem sortInts_any (l : List Int) (v : Value) (B : Nat) (w : World) (h : Own w B 3 1 v l.length (l.map (Value.int .i64))) (hl : l.length < 4611686018427387904) :
    Calls Try.prog 134 #[v] w fun e w' => e = .returned (.tuple #[]) ∧ Own w' B 3 1 v (sortI l).length ((sortI l).map (Value.int .i64)) ∧ w.grownBy w' v.ownBlock := by
  have hlen := sortI_len l
  have hx := h
  rcases h.2 with ⟨rfl, h0⟩ | ⟨g, o, cap, cur, rfl, hb, hg, h1, h2, h3, h4⟩
  · obtain rfl : l = [] := List.length_eq_zero_iff.1 h0
    have hc := AnyM.slices_Sort_int_none sortLay none 0 w
    change Calls Try.prog 134 #[.slice none 0 0] w _ at hc
    refine hc.mono ?_
    rintro e w' ⟨rfl, rfl⟩
    exact ⟨rfl, by simpa [sortI] using hx, grownBy_refl _ _⟩
  · have hH : Holds (Value.int .i64) w g o l.toArray := by
      intro j hj
      have hj' : j < l.length := by simpa using hj
      refine ⟨?_, hx.frozen rfl _⟩
      have := hx.cell rfl (j := j) (u := .int .i64 l[j]) (by simp [hj'])
      rw [this]
      simp [hj']
    have hc := AnyM.slices_Sort_int sortLay g o cap l w hH (Array.getElem?_eq_some_iff.1 hg).1 hl
    change Calls Try.prog 134 #[.slice (some ⟨g, o, none⟩) l.length cap] w _ at hc
    refine hc.mono ?_
    rintro e w' ⟨rfl, n, os, rfl⟩
    refine ⟨rfl, ⟨by simp, .inr ⟨g, o, cap, _, by rw [hlen], hb, heap_sorted_at _ hg, by omega, h2, ?_, ?_⟩⟩, grownBy_sorted_at _⟩
    · have : (putCells (Value.int .i64) o (sortI l).toArray cur).size = cur.size := by simp [putCells]
      show o + cap * 1 ≤ (putCells (Value.int .i64) o (sortI l).toArray cur).size
      omega
    · rw [Nat.mul_one]
      exact putCells_at o cur (sortI l) (by omega)
end Go.Proofs.Ytldonhgcifhpgaa
