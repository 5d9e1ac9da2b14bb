/- Parts: KeyS, InsC, ValA, DelA, DelD. -/
import Derived.Test.YtngbbefpphinjaaGreatDoorMg02
import Derived.Shelf.SlIterI.Nil
import Derived.Ground.GgzProg
import Derived.Test.YtngbbefpphinjaaGreatDoorRows
import Derived.Test.YtngbbefpphinjaaGreatDoorMg01
import Derived.Deep.LoopGhost
import Derived.Shelf.GgClosure.Gives
import Derived.Lib.ConvBytes
import Derived.Maps.AppendAt
/- Contracts: maps.Keys at a map of ints, and slices.Sorted at what it hands back: the map's keys, ascending, each once. No condition but the map's size. -/
namespace Go.Proofs.YtngbbefpphinjaaGreatDoor
open Go Go.RowKit Go.Maps Go.Sort Go.Shelf Go.Proofs
-- written by keylay.py for the seat YtngbbefpphinjaaGreatDoor
def keysLay_ren : Go.Shelf.Ren := ⟨fun | 7 => 70 | 10 => 122 | n => n, fun | 23 => 144 | 26 => 3 | 3 => 4 | 28 => 147 | 0 => 0 | 27 => 146 | 33 => 111 | 4 => 4 | n => n, fun | n => n⟩
theorem keysLay : Go.Proofs.SlLaysZI.n7 Tryz.prog keysLay_ren := {
 mixed := by kernel_rfl,
 f7 := ⟨Tryz.f70.name, by decide, Tryz.func70.trans (congrArg some (by kernel_rfl))⟩,
 f10 := ⟨Tryz.f122.name, by decide, Tryz.func122.trans (congrArg some (by kernel_rfl))⟩,
 t0 := Tryz.underlying0,
 a0 := Tryz.isAgg0,
 z0 := Tryz.sizeOf0,
 v0 := Tryz.zeroValue0,
 t4 := Tryz.underlying4,
 a4 := Tryz.isAgg4,
 z4 := Tryz.sizeOf4,
 v4 := Tryz.zeroValue4,
 t23 := Tryz.underlying144,
 a23 := Tryz.isAgg144,
 z23 := Tryz.sizeOf144,
 v23 := Tryz.zeroValue144,
 t26 := Tryz.underlying3,
 a26 := Tryz.isAgg3,
 z26 := Tryz.sizeOf3,
 v26 := Tryz.zeroValue3,
 t27 := Tryz.underlying146,
 a27 := Tryz.isAgg146,
 z27 := Tryz.sizeOf146,
 v27 := Tryz.zeroValue146,
 t28 := Tryz.underlying147,
 a28 := Tryz.isAgg147,
 z28 := Tryz.sizeOf147,
 v28 := Tryz.zeroValue147,
 t33 := Tryz.underlying111,
 a33 := Tryz.isAgg111,
 z33 := Tryz.sizeOf111,
 v33 := Tryz.zeroValue111 }
def keySortLay_ren : Go.Shelf.Ren := ⟨fun | 6 => 69 | 8 => 120 | 9 => 121 | 11 => 170 | 13 => 172 | 12 => 171 | 23 => 218 | 24 => 219 | 14 => 209 | 15 => 210 | 16 => 211 | 17 => 212 | 18 => 213 | 19 => 214 | 20 => 215 | 21 => 216 | 22 => 217 | 25 => 230 | 26 => 231 | 27 => 232 | 28 => 233 | 29 => 234 | 30 => 193 | 31 => 240 | n => n, fun | 26 => 3 | 28 => 147 | 24 => 71 | 0 => 0 | 3 => 3 | 37 => 265 | 48 => 318 | 50 => 320 | 4 => 4 | 40 => 312 | 39 => 311 | 45 => 170 | 5 => 5 | 9 => 9 | 51 => 326 | 55 => 330 | 57 => 337 | 58 => 338 | 33 => 111 | n => n, fun | n => n⟩
theorem keySortLay : Go.Proofs.SlLaysZI.n6 Tryz.prog keySortLay_ren := {
 mixed := by kernel_rfl,
 f6 := ⟨Tryz.f69.name, by decide, Tryz.func69.trans (congrArg some (by kernel_rfl))⟩,
 f8 := ⟨Tryz.f120.name, by decide, Tryz.func120.trans (congrArg some (by kernel_rfl))⟩,
 f11 := ⟨Tryz.f170.name, by decide, Tryz.func170.trans (congrArg some (by kernel_rfl))⟩,
 t0 := Tryz.underlying0,
 a0 := Tryz.isAgg0,
 z0 := Tryz.sizeOf0,
 v0 := Tryz.zeroValue0,
 t24 := Tryz.underlying71,
 a24 := Tryz.isAgg71,
 z24 := Tryz.sizeOf71,
 v24 := Tryz.zeroValue71,
 t26 := Tryz.underlying3,
 a26 := Tryz.isAgg3,
 z26 := Tryz.sizeOf3,
 v26 := Tryz.zeroValue3,
 t28 := Tryz.underlying147,
 a28 := Tryz.isAgg147,
 z28 := Tryz.sizeOf147,
 v28 := Tryz.zeroValue147,
 i26 := by kernel_rfl }
theorem keySorts (m : Nat) : AnyZI.SortsIn Tryz.prog keySortLay_ren Fence.wide m :=
 ⟨fun blk off cap ss W hH hblk hsz => callsIn_wide.2 (AnyM.slices_Sort_int sortLay blk off cap ss W hH hblk hsz),
  fun p cap W => callsIn_wide.2 (AnyM.slices_Sort_int_none sortLay p cap W)⟩
def Asc (S : Int -> Bool) (l : List Int) : Prop := l.Pairwise (· < ·) /\ (∀ x ∈ l, I64 x) /\ ∀ x, I64 x -> (x ∈ l ↔ S x = true)
theorem asc_of {S : Int -> Bool} {D : DataW Unit} (hS : IdsIs D S) {b n : Nat} {w : World} (hown : w.ownsMap Tryz.prog 3 (plainElem Tryz.prog 4) b n D) {ss : List Int} (hp : ss.Perm (intKeys D)) : Asc S (sortI ss) /\ (∀ x ∈ sortI ss, I64 x) := by
 obtain ⟨es, hD, hpw, _⟩ := hown.entries idsLaw
 obtain ⟨es', hD', hko⟩ := hown.keysOf
 obtain rfl : es = es' := by rw [hD] at hD'; simpa using hD'
 have hk : ∀ p ∈ es, ∃ x, p.1 = .int .i64 x /\ (Lit.int .i64 x).wf = true := fun p hp => by
  obtain ⟨v, hv⟩ := hko p hp
  obtain ⟨x, _, hx, hw⟩ := Maps.keyOf_i64 Tryz.underlying3 hv
  exact ⟨x, hx, hw⟩
 have hI : ∀ x, (Lit.int .i64 x).wf = true -> I64 x := fun x h => by
  have e1 : IntKind.min .i64 = -9223372036854775808 := by decide
  have e2 : IntKind.max .i64 = 9223372036854775807 := by decide
  simp only [Lit.wf, Bool.and_eq_true, decide_eq_true_eq, e1, e2] at h
  exact h
 have hm : ∀ x, x ∈ sortI ss ↔ ∃ p ∈ es, p.1 = .int .i64 x := fun x => by
  rw [(sortI_perm ss).mem_iff, hp.mem_iff, hD]
  show x ∈ es.map (fun p => Go.intOf p.1) ↔ _
  rw [List.mem_map]
  constructor
  ·rintro ⟨p, hp1, rfl⟩
   obtain ⟨y, hy, _⟩ := hk p hp1
   exact ⟨p, hp1, by rw [hy]; rfl⟩
  rintro ⟨p, hp1, e⟩
  exact ⟨p, hp1, by rw [e]; rfl⟩
 have hI64 : ∀ x ∈ sortI ss, I64 x := fun x hx => by
  obtain ⟨p, hp1, e⟩ := (hm x).1 hx
  obtain ⟨y, hy, hw⟩ := hk p hp1
  rw [e] at hy
  injection hy with _ hy
  rw [hy]; exact hI _ hw
 have hnd : (sortI ss).Nodup := by
  rw [((sortI_perm ss).trans hp).nodup_iff, hD]
  show (es.map fun p => Go.intOf p.1).Nodup
  refine List.pairwise_map.2 (hpw.imp_of_mem fun {p q} hp' hq' hne e => hne ?_)
  obtain ⟨a, ha, _⟩ := hk p hp'
  obtain ⟨c, hc, _⟩ := hk q hq'
  rw [ha, hc] at e ⊢
  exact congrArg _ e
 refine ⟨⟨?_, hI64, fun x hx => ?_⟩, hI64⟩
 ·have h1 : (sortI ss).Pairwise (· <= ·) := by
   have h := List.pairwise_mergeSort (le := fun a b : Int => decide (a <= b)) (fun a b c h1 h2 => by simp at *; omega) (fun a b => by simp; omega) ss
   exact h.imp fun h => of_decide_eq_true h
  exact (h1.and hnd).imp fun ⟨a, b⟩ => by omega
 rw [hm, <- (hS.2 x hx).2, hD, Maps.has_eq, List.any_eq_true]
 constructor
 ·rintro ⟨p, hp1, e⟩
  exact ⟨p, hp1, by rw [e]; simp [Lit.sameKey]⟩
 rintro ⟨p, hp1, e⟩
 obtain ⟨y, hy, _⟩ := hk p hp1
 rw [hy] at e
 exact ⟨p, hp1, by rw [hy]; simp [Lit.sameKey] at e; rw [e]⟩
theorem keysMap_any (mb : Option Nat) (W : World) : Calls Tryz.prog 70 #[.map mb] W fun e w' => e = .returned (.func (.func 122) #[] #[.pointer (some ⟨W.heap.size, 0, none⟩)]) /\ w' = W.alloc (.cells #[.map mb] 144) :=
 (callsIn_wide (n := 5)).1 (AnyZI.keys_in keysLay Fence.wide 5 trivial rfl mb W)
theorem sortedKeys_any (S : Int -> Bool) (b n : Nat) (W : World) (h : MapB W b n S) (hn : n <= 1000000) :
 Calls Tryz.prog 69 #[.func (.func 122) #[] #[.pointer (some ⟨W.heap.size, 0, none⟩)]] (W.alloc (.cells #[.map (some b)] 144)) fun e w' => ∃ v l, e = .returned v /\ Sl intL w' v l /\ Asc S l /\ Below W.heap.size W w' := by
 obtain ⟨D, hown, hS⟩ := h
 have hbl := hown.lt
 have hsz : Maps.size D <= n := hown.size_le
 have hseq : SeqGives Fence.wide 2 Tryz.prog 122 #[.pointer (some ⟨W.heap.size, 0, none⟩)] encZ (fun ss => ss.Perm (intKeys D)) (Maps.size D) (W.alloc (.cells #[.map (some b)] 144)) :=
  AnyZI.keys_gives (ρ := keysLay_ren) { keysLay with } Fence.wide _ trivial rfl (by omega) W.heap.size b n D _ (by simp) (by simp) (by
   obtain ⟨es, clock, hb, Ft, hs, hD⟩ := hown
   exact ⟨es, clock, (Below.heap_alloc _ _ b hbl).trans hb, Ft, hs, hD⟩)
 have cS := AnyZI.sorted_in keySortLay Fence.wide 5 trivial trivial trivial trivial rfl (by omega) (keySorts _) (enters_of Tryz.func121 (by kernel_rfl) rfl) 122 #[.pointer (some ⟨W.heap.size, 0, none⟩)] trivial (enters_of Tryz.func122 (by kernel_rfl) rfl) _ _ (by unfold maxLen; omega) (by omega) _ hseq
 change CallsIn _ _ Tryz.prog 69 _ _ _ at cS
 refine ((callsIn_wide (n := 5)).1 cS).mono ?_
 rintro e w' ⟨v, ss, rfl, hp, hrow, _, hb⟩
 obtain ⟨ha, hI⟩ := asc_of hS hown hp
 have hB : Below W.heap.size W w' := ((Below.refl _ W).alloc (Nat.le_refl _) _).trans (hb.mono (by simp))
 refine ⟨v, sortI ss, rfl, ?_, ha, hB⟩
 have hlen := sortI_len ss
 refine Own.ints (B := 0) (e := 3) hI ⟨by simp, ?_⟩
 rcases hrow.2 with ⟨rfl, h0⟩ | ⟨g, cap, cur, rfl, _, hg, h1, h2, h3, h4⟩
 ·exact .inl ⟨rfl, by rw [hlen, h0]⟩
 refine .inr ⟨g, 0, cap, cur, by rw [hlen], Nat.zero_le _, hg, by rw [hlen]; exact h1, h2, by rw [h3]; omega, ?_⟩
 rw [List.drop_zero, hlen]
 exact h4
open Go Go.RowKit
theorem cell_block {w w' : World} {b o : Nat} {v : Value} (hb : w'.heap[b]? = w.heap[b]?) (h : w.cell? ⟨b, o, none⟩ = some v) : w'.cell? ⟨b, o, none⟩ = some v := by
 unfold World.cell? at h ⊢
 dsimp only at h ⊢
 rw [hb]; exact h
theorem cells_at {w : World} {b : Nat} {cs : List Value} {e : TypeId} (h : w.heap[b]? = some (.cells cs.toArray e (0, 0))) {j : Nat} {u : Value} (hj : cs[j]? = some u) : w.cell? ⟨b, j, none⟩ = some u := by
 rw [cell_of_row w b j _ _ _ h]; simpa using hj
section
variable {P : Program} (w : World) (B : Nat) (e tS tV tI : TypeId) (i0 : TypeInfo) (z : Value) (sz bytes : Nat)
 (hS : P.underlying tS = some (.slice e)) (hI : P.underlying tI = some (.int .i64)) (ei : P.info? e = some i0) (ez : i0.zero = some z) (ez1 : i0.size = sz) (ez2 : i0.bytes = bytes) (hzs : z.cells.size = sz) (hsz : 0 < sz) (hby : bytes <= 4096)
 (g o n cap : Nat) (xs : List Value) (hown : Own w B e sz (.slice (some ⟨g, o, none⟩) n cap) n xs) (i : Nat) (hi : i < n) (hn : n <= 1000000)
 (vb : Nat) (cs : List Value) (hcl : cs.length = sz) (hcs : w.heap[vb]? = some (.cells cs.toArray e (0, 0))) (h1 : ∀ u ∈ cs, u.oneCell' = true) (hx1 : ∀ u ∈ xs, u.oneCell' = true)
include hS ei ez1 hown hi hcl hcs h1 hx1 hsz
include hI ez ez2 hzs hby hn in
theorem ins_grow (hB : B <= w.heap.size) (hroom : cap < n + 1) : ∃ (G : Nat) (W1 W2 : World) (W3 : Nat -> World), n + 1 <= G /\
 (∀ ty, (Builtin.append_ #[tS, tI] ty #[.slice (some ⟨g, o, none⟩) i cap, .int .i64 ((n : Int) + 1 - (i : Int))]).run P w = .ok (.slice (some ⟨w.heap.size, 0, none⟩) (n + 1) G) W1) /\
 (∀ ty, (Builtin.copy_ #[tS, tV] ty #[.slice (some ⟨w.heap.size, i * sz, none⟩) (n + 1 - i) (G - i), .slice (some ⟨vb, 0, none⟩) 1 1]).run P W1 = .ok (goInt 1) W2) /\
 (∀ k ty, (Builtin.copy_ #[tS, tS] ty #[.slice (some ⟨w.heap.size, (i + 1) * sz, none⟩) (n + 1 - (i + 1)) (G - (i + 1)), .slice (some ⟨g, o + i * sz, none⟩) (n - i) (cap - i)]).run P (W2.drewN k) = .ok (goInt ((n - i : Nat) : Int)) (W3 k)) /\
 ∀ k, Own (W3 k) B e sz (.slice (some ⟨w.heap.size, 0, none⟩) (n + 1) G) (n + 1) (xs.take (i * sz) ++ cs ++ xs.drop (i * sz)) /\ ∀ row, w.grownBy (W3 k) row := by
 have hlen := hown.1
 have hgl : g < w.heap.size := (hown.lt g rfl).2
 have hvl : vb < w.heap.size := (geB hcs)
 have hiz : i * sz + sz <= n * sz := by have := Nat.mul_le_mul_right sz (show i + 1 <= n by omega); rw [Nat.add_mul, Nat.one_mul] at this; exact this
 have hkk : (n : Int) + 1 - (i : Int) = ((n + 1 - i : Nat) : Int) := by omega
 have hik : i + (n + 1 - i) = n + 1 := by omega
 have htl : (xs.take (i * sz)).length = i * sz := by rw [List.length_take, hlen]; omega
 have hG1 := grownCap_ge w (n + 1) cap e
 have hG2 := grownCap_le_maxLen w (n + 1) cap e (by unfold maxLen; omega)
 have hb2 : (n + 1) * bytes <= 140737488355328 := Nat.le_trans (Nat.mul_le_mul (show n + 1 <= 1000001 by omega) hby) (by omega)
 have hb3 : (n + 1 - i) * bytes <= 281474976710656 := Nat.le_trans (Nat.mul_le_mul (show n + 1 - i <= 1000001 by omega) hby) (by omega)
 have happ : ∀ ty, (Builtin.append_ #[tS, tI] ty #[.slice (some ⟨g, o, none⟩) i cap, .int .i64 ((n : Int) + 1 - (i : Int))]).run P w =
  .ok (.slice (some ⟨w.heap.size, 0, none⟩) (n + 1) (grownCap w (n + 1) cap e)) (w.drew.alloc (.cells ((xs.take (i * sz)).toArray ++ Builtin.zeroCells z.cells (n + 1 - i) ++ Builtin.zeroCells z.cells (grownCap w (n + 1) cap e - (n + 1))) e)) := fun ty => by
  have h := Lib.run_append_grow_zeros w tS tI ty e i0 z .i64 .i64 hS hI ei ez (some ⟨g, o, none⟩) i cap (xs.take (i * sz))
   (run_firstCells_some (P := P) w.drew i0.size i ⟨g, o, none⟩ i cap (xs.take (i * sz)) (by rw [ez1]; exact htl) (fun j u hj => by
     rw [addr_add]
     rw [List.getElem?_take] at hj
     split at hj
     · exact hown.cell rfl hj
     cases hj)) (n + 1 - i) (by omega) (by omega) (by omega) (by omega) (by rw [ez2]; exact hb3) (by rw [ez2, hik]; exact growslice_fits hroom hb2)
  rw [hik] at h
  rw [hkk]
  exact h
 generalize grownCap w (n + 1) cap e = G at happ hG1 hG2
 obtain ⟨Z, hZ1, hZ2⟩ : ∃ Z : List Value, (xs.take (i * sz)).toArray ++ Builtin.zeroCells z.cells (n + 1 - i) ++ Builtin.zeroCells z.cells (G - (n + 1)) = (xs.take (i * sz) ++ Z).toArray /\ Z.length = (G - i) * sz := by
  refine ⟨(Builtin.zeroCells z.cells (n + 1 - i)).toList ++ (Builtin.zeroCells z.cells (G - (n + 1))).toList, by simp, ?_⟩
  simp only [List.length_append, Array.length_toList, size_zeroCells, hzs, <- Nat.add_mul]
  congr 1; omega
 rw [hZ1] at happ
 clear hZ1
 have hZs : sz + (n - i) * sz <= Z.length := by
  rw [hZ2]
  have := Nat.mul_le_mul_right sz (show 1 + (n - i) <= G - i by omega)
  rw [Nat.add_mul, Nat.one_mul] at this; exact this
 have hGs : i * sz + Z.length = G * sz := by rw [hZ2, <- Nat.add_mul]; congr 1; omega
 have g1 : (w.drew.alloc (.cells (xs.take (i * sz) ++ Z).toArray e)).heap[w.heap.size]? = some (.cells (xs.take (i * sz) ++ Z).toArray e (0, 0)) := heap_alloc_new w.drew _
 have b1 : ∀ k, k < w.heap.size -> (w.drew.alloc (.cells (xs.take (i * sz) ++ Z).toArray e)).heap[k]? = w.heap[k]? := fun k hk => Below.heap_alloc w.drew _ k hk
 have o1 : w.grownBy (w.drew.alloc (.cells (xs.take (i * sz) ++ Z).toArray e)) none := ⟨rfl, rfl, rfl, by simp, fun k hk _ => b1 k hk⟩
 generalize w.drew.alloc (.cells (xs.take (i * sz) ++ Z).toArray e) = W1 at happ g1 b1 o1
 have hcp1 : ∀ ty, (Builtin.copy_ #[tS, tV] ty #[.slice (some ⟨w.heap.size, i * sz, none⟩) (n + 1 - i) (G - i), .slice (some ⟨vb, 0, none⟩) 1 1]).run P W1 = .ok (goInt 1) (W1.setRow w.heap.size (lay (xs.take (i * sz) ++ Z) (i * sz) cs).toArray) := fun ty => by
  have := run_copy_q (P := P) W1 tS tV ty e i0 w.heap.size (i * sz) (n + 1 - i) (G - i) ⟨vb, 0, none⟩ 1 1 1 _ e cs hS ei g1 (by show min 1 (n + 1 - i) = 1; omega) (by rw [ez1]; omega) (fun j u hj => by rw [addr_add, Nat.zero_add]; exact cell_block (b1 vb hvl) (cells_at hcs hj)) (by simp [htl]; omega) h1
  simpa [lay] using this
 have g2 := setRow_heap W1 w.heap.size _ (lay (xs.take (i * sz) ++ Z) (i * sz) cs).toArray e _ g1
 have b2 : ∀ k, k < w.heap.size -> (W1.setRow w.heap.size (lay (xs.take (i * sz) ++ Z) (i * sz) cs).toArray).heap[k]? = w.heap[k]? := fun k hk => (setRow_other W1 w.heap.size k _ (by omega)).trans (b1 k hk)
 have o2 : w.grownBy (W1.setRow w.heap.size (lay (xs.take (i * sz) ++ Z) (i * sz) cs).toArray) none := ⟨o1.os, o1.tape, o1.output, by have := o1.size; simpa using this, fun k hk _ => b2 k hk⟩
 have hl1 : (lay (xs.take (i * sz) ++ Z) (i * sz) cs).length = (xs.take (i * sz) ++ Z).length := lay_length (by simp [htl]; omega)
 generalize W1.setRow w.heap.size (lay (xs.take (i * sz) ++ Z) (i * sz) cs).toArray = W2 at hcp1 g2 b2 o2
 have hdl : (xs.drop (i * sz)).length = (n - i) * sz := by rw [List.length_drop, hlen, Nat.sub_mul]
 have htot : (xs.take (i * sz) ++ Z).length = G * sz := by rw [List.length_append, htl]; exact hGs
 have hsm : (i + 1) * sz + (n - i) * sz <= G * sz := by rw [<- Nat.add_mul]; exact Nat.mul_le_mul_right _ (by omega)
 refine ⟨G, W1, W2, fun k => (W2.drewN k).setRow w.heap.size (lay (lay (xs.take (i * sz) ++ Z) (i * sz) cs) ((i + 1) * sz) (xs.drop (i * sz))).toArray, hG1, happ, hcp1, fun k ty => ?_, fun k => ⟨?_, fun row => ?_⟩⟩
 ·have := run_copy_q (P := P) (W2.drewN k) tS tS ty e i0 w.heap.size ((i + 1) * sz) (n + 1 - (i + 1)) (G - (i + 1)) ⟨g, o + i * sz, none⟩ (n - i) (cap - i) (n - i) _ e (xs.drop (i * sz)) hS ei g2 (by show min (n - i) (n + 1 - (i + 1)) = n - i; omega) (by rw [ez1]; exact hdl)
   (fun j u hj => by
     rw [addr_add, Nat.add_assoc]
     rw [List.getElem?_drop] at hj
     exact cell_block (b2 g hgl) (hown.cell rfl hj)) (by simp only [List.size_toArray, hl1, htot, hdl]; exact hsm) (fun u hu => hx1 u (List.mem_of_mem_drop hu))
  simpa [lay] using this
 ·have hl2 : (lay (lay (xs.take (i * sz) ++ Z) (i * sz) cs) ((i + 1) * sz) (xs.drop (i * sz))).length = G * sz := by
   rw [lay_length (by rw [hl1, htot, hdl]; exact hsm), hl1, htot]
  refine ⟨?_, .inr ⟨w.heap.size, 0, G, _, rfl, hB, setRow_heap (W2.drewN k) w.heap.size _ _ e _ g2, hG1, hG2, ?_, ?_⟩⟩
  ·simp only [List.length_append, htl, hcl, hdl, Nat.add_mul, Nat.one_mul, Nat.sub_mul]; omega
  ·simp only [List.size_toArray, hl2]; omega
  have := lay_insert_new (i * sz) sz (n * sz) xs cs Z hlen hcl (by omega) (by rw [Nat.sub_mul] at hZs; omega)
  rw [List.drop_zero, show (n + 1) * sz = n * sz + sz by rw [Nat.add_mul, Nat.one_mul]]
  rw [show (i + 1) * sz = i * sz + sz by rw [Nat.add_mul, Nat.one_mul]]
  exact this
 exact ⟨o2.os, o2.tape, o2.output, by have := o2.size; simpa using this, fun k' hk' _ => (setRow_other (W2.drewN k) w.heap.size k' _ (by omega)).trans (b2 k' hk')⟩
theorem ins_room (hgv : g ≠ vb) (hroom : n + 1 <= cap) : ∃ (W1 : Nat -> World) (W2 : Nat -> Nat -> World),
 (∀ k ty, (Builtin.copy_ #[tS, tS] ty #[.slice (some ⟨g, o + (i + 1) * sz, none⟩) (n + 1 - (i + 1)) (cap - (i + 1)), .slice (some ⟨g, o + i * sz, none⟩) (n + 1 - i) (cap - i)]).run P (w.drewN k) = .ok (goInt ((n - i : Nat) : Int)) (W1 k)) /\
 (∀ k k2 ty, (Builtin.copy_ #[tS, tV] ty #[.slice (some ⟨g, o + i * sz, none⟩) (n + 1 - i) (cap - i), .slice (some ⟨vb, 0, none⟩) 1 1]).run P ((W1 k).drewN k2) = .ok (goInt 1) (W2 k k2)) /\
 ∀ k k2, Own (W2 k k2) B e sz (.slice (some ⟨g, o, none⟩) (n + 1) cap) (n + 1) (xs.take (i * sz) ++ cs ++ xs.drop (i * sz)) /\ w.grownBy (W2 k k2) (some g) := by
 have hlen := hown.1
 rcases hown.2 with ⟨h0, _⟩ | ⟨g', o', cap', cur, hv, hbg, hg, hnc, hcm, hfit, htk⟩
 ·cases h0
 injection hv with e1 _ e3
 injection e1 with e1
 injection e1 with e1 e2
 subst e1; subst e2; subst e3
 have hiz : i * sz + sz <= n * sz := by have := Nat.mul_le_mul_right sz (show i + 1 <= n by omega); rw [Nat.add_mul, Nat.one_mul] at this; exact this
 have hns : n * sz + sz <= cap * sz := by have := Nat.mul_le_mul_right sz hroom; rw [Nat.add_mul, Nat.one_mul] at this; exact this
 have hdl : (xs.drop (i * sz)).length = n * sz - i * sz := by rw [List.length_drop, hlen]
 have hi1 : (i + 1) * sz = i * sz + sz := by rw [Nat.add_mul, Nat.one_mul]
 have hcl1 : (lay cur.toList (o + i * sz + sz) (xs.drop (i * sz))).length = cur.size := by rw [lay_length (by rw [hdl, Array.length_toList]; omega), Array.length_toList]
 have g1 : ∀ k, ((w.drewN k).setRow g (lay cur.toList (o + i * sz + sz) (xs.drop (i * sz))).toArray).heap[g]? = some (.cells (lay cur.toList (o + i * sz + sz) (xs.drop (i * sz))).toArray e (0, 0)) := fun k => setRow_heap (w.drewN k) g _ _ e _ hg
 have b1 : ∀ k j, j ≠ g -> ((w.drewN k).setRow g (lay cur.toList (o + i * sz + sz) (xs.drop (i * sz))).toArray).heap[j]? = w.heap[j]? := fun k j hj => setRow_other (w.drewN k) g j _ hj
 refine ⟨fun k => (w.drewN k).setRow g (lay cur.toList (o + i * sz + sz) (xs.drop (i * sz))).toArray,
  fun k k2 => (((w.drewN k).setRow g (lay cur.toList (o + i * sz + sz) (xs.drop (i * sz))).toArray).drewN k2).setRow g (lay (lay cur.toList (o + i * sz + sz) (xs.drop (i * sz))) (o + i * sz) cs).toArray, fun k ty => ?_, fun k k2 ty => ?_, fun k k2 => ⟨?_, ?_⟩⟩
 ·have := run_copy_q (P := P) (w.drewN k) tS tS ty e i0 g (o + (i + 1) * sz) (n + 1 - (i + 1)) (cap - (i + 1)) ⟨g, o + i * sz, none⟩ (n + 1 - i) (cap - i) (n - i) cur e (xs.drop (i * sz)) hS ei hg (by show min (n + 1 - i) (n + 1 - (i + 1)) = n - i; omega) (by rw [ez1, hdl, Nat.sub_mul])
   (fun j u hj => by
     rw [addr_add, Nat.add_assoc]
     rw [List.getElem?_drop] at hj
     exact hown.cell rfl hj) (by rw [hdl, hi1]; omega) (fun u hu => hx1 u (List.mem_of_mem_drop hu))
  rw [hi1, <- Nat.add_assoc] at this ⊢
  exact this
 ·have := run_copy_q (P := P) (((w.drewN k).setRow g (lay cur.toList (o + i * sz + sz) (xs.drop (i * sz))).toArray).drewN k2) tS tV ty e i0 g (o + i * sz) (n + 1 - i) (cap - i) ⟨vb, 0, none⟩ 1 1 1 _ e cs hS ei (g1 k) (by show min 1 (n + 1 - i) = 1; omega) (by rw [ez1]; omega)
   (fun j u hj => by rw [addr_add, Nat.zero_add]; exact cell_block (b1 k vb (Ne.symm hgv)) (cells_at hcs hj)) (by simp only [List.size_toArray, hcl1]; omega) h1
  simpa [lay] using this
 ·have hl2 : (lay (lay cur.toList (o + i * sz + sz) (xs.drop (i * sz))) (o + i * sz) cs).length = cur.size := by rw [lay_length (by rw [hcl1]; omega), hcl1]
  refine ⟨?_, .inr ⟨g, o, cap, _, rfl, hbg, setRow_heap _ g _ _ e _ (g1 k), hroom, hcm, ?_, ?_⟩⟩
  ·simp only [List.length_append, List.length_take, hlen, hcl, hdl, Nat.add_mul, Nat.one_mul]; omega
  ·simp only [List.size_toArray, hl2]; exact hfit
  rw [show (n + 1) * sz = n * sz + sz by rw [Nat.add_mul, Nat.one_mul]]
  exact lay_insert cur.toList o (i * sz) sz (n * sz) xs cs htk hlen hcl (by omega) (by rw [Array.length_toList]; omega)
 exact ⟨rfl, rfl, rfl, by simp, fun j hj hjg => by
  have hj' : j ≠ g := fun e => hjg (by rw [e])
  exact (setRow_other _ g j _ hj').trans (b1 k j hj')⟩
omit h1 hx1 in
theorem ins_apart (hgv : g ≠ vb) (hroom : n + 1 <= cap) (tR : TypeId) (lb cb o2 : Nat) :
 (Extern.SlicesOverlaps.overlaps #[tS, tS] #[tR] #[.slice (some ⟨vb, 0, none⟩) 1 1, .slice (some ⟨g, o2, none⟩) lb cb]).run P w = .ok (.bool false) w := by
 rcases hown.2 with ⟨h0, _⟩ | ⟨g', o', cap', cur, hv, hbg, hg, hnc, hcm, hfit, htk⟩
 ·cases h0
 injection hv with e1 _ e3
 injection e1 with e1
 injection e1 with e1 e2
 subst e1; subst e2; subst e3
 have hpos : 0 < cur.size := by have := Nat.mul_le_mul_right sz (show 1 <= cap by omega); omega
 exact Lib.run_overlaps_apart w tS tR e hS sz (fun w => by simp [sizeOf, typeInfo, ei, ez1]) ⟨vb, 0, none⟩ ⟨g, o2, none⟩ 1 1 lb cb (Ne.symm hgv) e e cs.length cur.size (by simp [World.shape?, hcs]) (by simp [World.shape?, hg]) (by omega)
  (by simp [World.frozen?, hcs]) (by simp [World.frozen?, hcs])
end
open Go.RowKit
def idxI {D : Type} (p : D -> Bool) (l : List D) : Int := match l.findIdx? p with | some i => i | none => -1
theorem idxI_hit {D : Type} {p : D -> Bool} {l : List D} {k : Nat} {d : D} (h1 : ∀ j x, j < k -> l[j]? = some x -> p x = false) (h2 : l[k]? = some d) (h3 : p d = true) : idxI p l = k := by
 unfold idxI
 have : l.findIdx? p = some k := by
  rw [List.findIdx?_eq_some_iff_getElem]
  obtain ⟨hk, rfl⟩ := List.getElem?_eq_some_iff.1 h2
  exact ⟨hk, h3, fun j hj => by simp [h1 j _ hj (List.getElem?_eq_getElem (by omega))]⟩
 rw [this]
theorem idxI_miss {D : Type} {p : D -> Bool} {l : List D} (h1 : ∀ j x, j < l.length -> l[j]? = some x -> p x = false) : idxI p l = -1 := by
 unfold idxI
 have : l.findIdx? p = none := by
  rw [List.findIdx?_eq_none_iff]
  intro x hx
  obtain ⟨j, hj, rfl⟩ := List.getElem_of_mem hx
  exact h1 j _ hj (List.getElem?_eq_getElem hj)
 rw [this]
theorem idxI_any {D : Type} (p : D -> Bool) (l : List D) : decide ((0 : Int) <= idxI p l) = l.any p := by
 unfold idxI
 cases h : l.findIdx? p with
 | none =>
  rw [List.findIdx?_eq_none_iff] at h
  have : l.any p = false := by rw [List.any_eq_false]; intro x hx; simp [h x hx]
  rw [this]; rfl
 | some i =>
  obtain ⟨hi, hp, _⟩ := List.findIdx?_eq_some_iff_getElem.1 h
  have : l.any p = true := List.any_eq_true.2 ⟨_, List.getElem_mem hi, hp⟩
  rw [this]; simp
theorem miss_step {D : Type} {p : D -> Bool} {l : List D} {k : Nat} {d : D} (h1 : ∀ j x, j < k -> l[j]? = some x -> p x = false) (h2 : l[k]? = some d) (h3 : p d = false) : ∀ j x, j < k + 1 -> l[j]? = some x -> p x = false := by
 intro j x hj hx
 by_cases e : j = k
 ·subst e
  have := h2.symm.trans hx
  cases this
  exact h3
 exact h1 j x (by omega) hx
def PredB {D : Type} (P : Program) (g : Nat) (caps : Array Value) (V : World -> D -> Value -> Prop) (p : D -> Bool) (w : World) : Prop :=
 ∀ x u wx, Below w.heap.size w wx -> V wx x u -> Calls P g (#[u] ++ caps) wx (fun e w' => e = .returned (.bool (p x)) /\ Below wx.heap.size wx w')
set_option maxHeartbeats 400000 in
theorem idx_byte (g : Nat) (caps : Array Value) (eg : ∀ args w, (callFunc g args).run Tryz.prog w = .ok (.enter g args) w) (p : UInt8 -> Bool) (l : List UInt8) (v : Value) (w : World) (hv : Sl byteL w v l)
 (hp : PredB Tryz.prog g caps (fun _ x u => u = .int .u8 x.toNat) p w) :
 Calls Tryz.prog 194 #[v, .func (.func g) #[] caps] w fun e w' => e = .returned (.int .i64 (idxI p l)) /\ Below w.heap.size w w' := by
 obtain ⟨A, c, rfl, hlc, hcm⟩ := hv.form
 unfold maxLen at hcm
 go_enter Tryz.func194, Tryz.ntmps194
 go_wp2_with fail
 go_loopw [8] (fun i wr => ∃ k : Nat, k <= l.length /\ i = .int .i64 k /\ Below w.heap.size w wr /\ Hid (∀ j x, j < k -> l[j]? = some x -> p x = false)) (fun i _ => l.length - (intOf i).toNat)
 case atStart => exact ⟨0, Nat.zero_le _, rfl, Below.refl _ _, fun j x hj => absurd hj (Nat.not_lt_zero _)⟩
 obtain ⟨k, hk, rfl, hb, HA⟩ := hrel
 by_cases hlt : k < l.length
 ·obtain ⟨d, hd⟩ : ∃ d, l[k]? = some d := ⟨_, List.getElem?_eq_getElem hlt⟩
  obtain ⟨b, o, rfl, hcell⟩ := byte_at (hv.below hb) hd
  have HD : Hid (l[k]? = some d) := hd
  clear hd
  have hcall := hp d _ wr hb rfl
  clear hp hv
  cases hq : p d with
  | true =>
   rw [hq] at hcall
   have HQ : Hid (p d = true) := hq
   clear hq
   go_wp2_with (go_at_fn g; refine hcall.mono ?_; rintro e w' ⟨rfl, hb2⟩)
   go_ret
   exact ⟨ret_int (idxI_hit HA.out HD.out HQ.out).symm, hb.trans (hb2.mono hb.size)⟩
  | false =>
   rw [hq] at hcall
   have HQ : Hid (p d = false) := hq
   clear hq
   go_wp2_with (go_at_fn g; refine hcall.mono ?_; rintro e w' ⟨rfl, hb2⟩)
   go_roundw
   case rel => exact ⟨k + 1, by omega, by go_num, hb.trans (hb2.mono hb.size), miss_step HA.out HD.out HQ.out⟩
   case measure => simp [intOf]; omega
 have hkl : k = l.length := by omega
 subst hkl
 go_wp2_with fail
 go_ret
 exact ⟨ret_int (idxI_miss HA.out).symm, hb⟩
theorem has_byte (g : Nat) (caps : Array Value) (eg : ∀ args w, (callFunc g args).run Tryz.prog w = .ok (.enter g args) w) (p : UInt8 -> Bool) (l : List UInt8) (v : Value) (w : World) (hv : Sl byteL w v l)
 (hp : PredB Tryz.prog g caps (fun _ x u => u = .int .u8 x.toNat) p w) :
 Calls Tryz.prog 147 #[v, .func (.func g) #[] caps] w fun e w' => e = .returned (.bool (l.any p)) /\ Below w.heap.size w w' := by
 have h1 := idx_byte g caps eg p l v w hv hp
 have h2 := idxI_any p l
 have H2 := Lib.hid h2
 clear h2 hv hp eg
 go_enter Tryz.func147, Tryz.ntmps147
 go_wp2_with (go_at_call 194; refine h1.mono ?_; rintro e w' ⟨rfl, hb⟩)
 go_ret
 exact ⟨ret_bool H2.out, hb⟩
theorem bytes_sl (w : World) (s : ByteArray) (hs : Sm s) : Sl byteL (Lib.bytesWorld w 5 s) (.slice (some ⟨w.heap.size, 0, none⟩) s.size (grownCap w s.size 0 5)) s.data.toList /\ Below w.heap.size w (Lib.bytesWorld w 5 s) := by
 have e : s.data.toList.length = s.size := by rw [Array.length_toList]; rfl
 refine ⟨⟨some ⟨w.heap.size, 0, none⟩, grownCap w s.size 0 5, by rw [e], by rw [e]; exact grownCap_ge _ _ _ _, ?_, ?_⟩, ⟨rfl, rfl, rfl, by rw [Lib.bytesWorld_size]; omega, fun k hk => Lib.bytesWorld_at_old w 5 s k hk⟩⟩
 ·exact grownCap_le_maxLen _ _ _ _ (by unfold Sm at hs; unfold maxLen; omega)
 intro i d hi
 refine ⟨_, _, _, rfl, ⟨rfl, trivial⟩, fun j u hj => ?_⟩
 have hlt : i < s.size := by rw [<- e]; exact (List.getElem?_eq_some_iff.1 hi).1
 match j, hj with
 | 0, hj =>
  simp at hj
  subst hj
  have := Lib.bytesWorld_cell w 5 s i hlt
  simpa [byteL, flatL, List.getD, hi] using this
/-! ### value.Name -/
def nameC (c : UInt8) : Bool := decide ((c.toNat : Int) < 97) || decide (122 < (c.toNat : Int))
def nameE (s : ByteArray) : Int := if s.toList.isEmpty then 2 else if 8 < s.size then 2 else if s.data.toList.any nameC then 2 else 0
theorem name1 (c : UInt8) (w : World) :
 Calls Tryz.prog 197 #[.int .u8 c.toNat] w fun e w' => e = .returned (.bool (nameC c)) /\ w = w' := by
 unfold nameC
 go_enter Tryz.func197, Tryz.ntmps197
 go_wp2
 all_goals go_ret
 all_goals exact ⟨rfl, rfl⟩
theorem name_any (s : ByteArray) (w : World) (hs : Sm s) :
 Calls Tryz.prog 150 #[.string s] w fun e w' => e = .returned (errV (nameE s)) /\ Below w.heap.size w w' := by
 have hcv := fun wx => Lib.run_convert_string_bytes (P := Tryz.prog) wx 9 228 5 s Tryz.underlying9 Tryz.underlying228 Tryz.underlying5
 obtain ⟨hsl, hb⟩ := bytes_sl w s hs
 have hcall := has_byte 197 #[] (by intro args w; kernel_rfl) nameC s.data.toList _ _ hsl (fun x u wx _ hu => by subst hu; exact (name1 x wx).mono fun e w' ⟨h1, h2⟩ => ⟨h1, h2 ▸ Below.refl _ _⟩)
 have HF : Hid (nameE s = if s.toList.isEmpty then 2 else if 8 < s.size then 2 else if s.data.toList.any nameC then 2 else 0) := rfl
 clear hsl
 have hs' : s.size <= 1048576 := hs
 clear hs
 by_cases h0 : s.toList.isEmpty = true
 ·have HE : Hid (errV (nameE s) = .iface 122 (.int .i64 2)) := by rw [HF.out, if_pos h0]; rfl
  clear hcall
  go_enter Tryz.func150, Tryz.ntmps150
  go_wp2_with fail
  go_ret
  exact ⟨by rw [HE.out]; rfl, Below.refl _ _⟩
 have h0' : s.toList.isEmpty = false := by simpa using h0
 by_cases h8 : 8 < s.size
 ·have HE : Hid (errV (nameE s) = .iface 122 (.int .i64 2)) := by rw [HF.out, if_neg h0, if_pos h8]; rfl
  have h8' : (8 : Int) < (s.size : Int) := by omega
  clear hcall h0
  go_enter Tryz.func150, Tryz.ntmps150
  go_wp2_with fail
  go_ret
  exact ⟨by rw [HE.out]; rfl, Below.refl _ _⟩
 have h8' : decide ((8 : Int) < (s.size : Int)) = false := by simp; omega
 have h8'' : (s.size : Int) <= 8 := by omega
 clear h0
 cases hq : s.data.toList.any nameC with
 | true =>
  have HE : Hid (errV (nameE s) = .iface 122 (.int .i64 2)) := by rw [HF.out, h0', if_neg (by simp), if_neg h8, hq]; rfl
  rw [hq] at hcall
  clear hq
  go_enter Tryz.func150, Tryz.ntmps150
  go_wp2_with (go_at_call 147; refine hcall.mono ?_; rintro e w' ⟨rfl, hb2⟩)
  go_ret
  exact ⟨by rw [HE.out]; rfl, hb.trans (hb2.mono hb.size)⟩
 | false =>
  have HE : Hid (errV (nameE s) = .nilIface) := by rw [HF.out, h0', if_neg (by simp), if_neg h8, hq]; rfl
  rw [hq] at hcall
  clear hq
  go_enter Tryz.func150, Tryz.ntmps150
  go_wp2_with (go_at_call 147; refine hcall.mono ?_; rintro e w' ⟨rfl, hb2⟩)
  go_ret
  exact ⟨by rw [HE.out]; rfl, hb.trans (hb2.mono hb.size)⟩
/-! ### Lists -/
def setAll {α : Type} : List α -> Nat -> List α -> List α
 | xs, _, [] => xs
 | xs, k, c :: cs => setAll (xs.set k c) (k + 1) cs
theorem setAll_append {α : Type} (P : List α) : ∀ (cs R : List α) (k : Nat), setAll (P ++ R) (P.length + k) cs = P ++ setAll R k cs
 | [], _, _ => rfl
 | c :: cs, R, k => by
  rw [setAll, setAll, List.set_append_right _ _ (by omega), Nat.add_sub_cancel_left, Nat.add_assoc]
  exact setAll_append P cs _ _
theorem setAll_head {α : Type} : ∀ (cs P R : List α), P.length = cs.length -> setAll (P ++ R) 0 cs = cs ++ R
 | [], P, R, h => by
  have e : P = [] := List.eq_nil_of_length_eq_zero (by simpa using h)
  subst e; rfl
 | c :: cs, a :: P, R, h => by
  show setAll (c :: (P ++ R)) (0 + 1) cs = _
  have := setAll_append [c] cs (P ++ R) 0
  simp only [List.singleton_append, List.length_singleton] at this
  rw [show (0 : Nat) + 1 = 1 + 0 by omega, this, setAll_head cs P R (by simpa using h)]
  rfl
 | c :: cs, [], R, h => by simp at h
section
variable {D : Type} {n : Nat} {enc : D -> List Value}
theorem flat_set (hn : ∀ d, (enc d).length = n) : ∀ (l : List D) (i : Nat) (d : D), i < l.length -> setAll (l.flatMap enc) (i * n) (enc d) = (l.set i d).flatMap enc
 | a :: l, 0, d, _ => by
  rw [List.flatMap_cons, Nat.zero_mul, List.set_cons_zero, List.flatMap_cons]
  exact setAll_head _ _ _ (by rw [hn, hn])
 | a :: l, i + 1, d, h => by
  rw [List.flatMap_cons, List.set_cons_succ, List.flatMap_cons, <- flat_set hn l i d (by simpa using h), <- setAll_append]
  congr 1
  rw [hn, Nat.add_mul]; omega
end
/-! ### What is kept -/
structure Kept {D : Type} (p : D -> Bool) (l dk : List D) (j i : Nat) : Prop where
 len : dk.length = l.length
 lt : i < j
 le : j <= l.length
 low : dk.take i = (l.take j).filter (fun x => !p x)
 high : dk.drop j = l.drop j
theorem filter_all {D : Type} {p : D -> Bool} {l : List D} (h : ∀ j x, j < l.length -> l[j]? = some x -> p x = false) : l.filter (fun x => !p x) = l := by
 rw [List.filter_eq_self]
 intro x hx
 obtain ⟨i, hi⟩ := List.mem_iff_getElem?.1 hx
 rw [h i x (List.getElem?_eq_some_iff.1 hi).1 hi]; rfl
theorem take_snoc {D : Type} {l : List D} {j : Nat} {d : D} (h : l[j]? = some d) : l.take (j + 1) = l.take j ++ [d] := by
 rw [List.take_add_one, h]; rfl
theorem Kept.start {D : Type} {p : D -> Bool} {l : List D} {k : Nat} {d : D} (h : l[k]? = some d) (hd : p d = true) (hm : ∀ j x, j < k -> l[j]? = some x -> p x = false) : Kept p l l (k + 1) k := by
 have hk := (List.getElem?_eq_some_iff.1 h).1
 refine ⟨rfl, by omega, by omega, ?_, rfl⟩
 rw [take_snoc h, List.filter_append]
 have e : [d].filter (fun x => !p x) = [] := by simp [hd]
 rw [e, List.append_nil, filter_all]
 intro j x hj hx
 rw [List.getElem?_take] at hx
 split at hx
 ·exact hm j x (by assumption) hx
 cases hx
theorem Kept.at {D : Type} {p : D -> Bool} {l dk : List D} {j i : Nat} (h : Kept p l dk j i) (_hj : j < l.length) : dk[j]? = l[j]? := by
 have := congrArg (fun x => x[0]?) h.high
 simpa using this
theorem Kept.skip {D : Type} {p : D -> Bool} {l dk : List D} {j i : Nat} {d : D} (h : Kept p l dk j i) (hd : l[j]? = some d) (hp : p d = true) : Kept p l dk (j + 1) i := by
 have hjl := (List.getElem?_eq_some_iff.1 hd).1
 refine ⟨h.len, by have := h.lt; omega, by omega, ?_, ?_⟩
 ·rw [take_snoc hd, List.filter_append, h.low]; simp [hp]
 have := congrArg (List.drop 1) h.high
 simpa using this
theorem Kept.keep {D : Type} {p : D -> Bool} {l dk : List D} {j i : Nat} {d : D} (h : Kept p l dk j i) (hd : l[j]? = some d) (hp : p d = false) : Kept p l (dk.set i d) (j + 1) (i + 1) := by
 have hj := (List.getElem?_eq_some_iff.1 hd).1
 have hlt := h.lt
 have hl := h.len
 refine ⟨by rw [List.length_set]; exact hl, by omega, by omega, ?_, ?_⟩
 ·rw [take_snoc hd, List.filter_append, <- h.low, take_snoc (l := dk.set i d) (j := i) (d := d) (by rw [List.getElem?_set]; simp; omega), List.take_set_of_le (Nat.le_refl _)]
  simp [hp]
 rw [List.drop_set_of_lt (by omega)]
 have := congrArg (List.drop 1) h.high
 simpa using this
theorem Kept.done {D : Type} {p : D -> Bool} {l dk : List D} {i : Nat} (h : Kept p l dk l.length i) : dk.take i = l.filter (fun x => !p x) /\ (l.filter (fun x => !p x)).length = i := by
 have e := h.low
 rw [List.take_length] at e
 refine ⟨e, ?_⟩
 rw [<- e, List.length_take]
 have := h.lt; have := h.len; omega
theorem idxI_cases {D : Type} (p : D -> Bool) (l : List D) : (idxI p l = -1 /\ l.filter (fun x => !p x) = l) \/ ∃ (k : Nat) (d : D), idxI p l = k /\ l[k]? = some d /\ Kept p l l (k + 1) k := by
 unfold idxI
 cases h : l.findIdx? p with
 | none =>
  left
  refine ⟨rfl, filter_all fun j x _ hx => ?_⟩
  have := List.findIdx?_eq_none_iff.1 h x (List.mem_of_getElem? hx)
  simpa using this
 | some k =>
  right
  rw [List.findIdx?_eq_some_iff_getElem] at h
  obtain ⟨hk, hp, hm⟩ := h
  refine ⟨k, l[k], rfl, List.getElem?_eq_getElem hk, Kept.start (List.getElem?_eq_getElem hk) hp fun j x hj hx => ?_⟩
  obtain ⟨hjl, rfl⟩ := List.getElem?_eq_some_iff.1 hx
  simpa using hm j hj
/-! ### The model: clear -/
theorem grownBy_setRow {w : World} {g : Nat} {xs : Array Value} : w.grownBy (w.setRow g xs) (some g) :=
 ⟨rfl, rfl, rfl, by simp, fun k _ hk => setRow_other w g k _ (fun e => hk (by rw [e]))⟩
theorem grownBy_setCell_q (W : World) (p : Addr) (v : Value) : W.grownBy (W.setCell p v) (some p.block) :=
 ⟨rfl, rfl, rfl, by simp [World.setCell], fun k _ hk => Below.heap_setCell _ _ _ _ (fun e => hk (by rw [e]))⟩
theorem grownBy_below {w w' : World} (h : Below w.heap.size w w') (row : Option Nat) : w.grownBy w' row := ⟨h.os, h.tape, h.output, h.size, fun k hk _ => h.block k hk⟩
section
variable {P : Program}
theorem run_clear_q (w : World) (t ty e te : TypeId) (i0 : TypeInfo) (z : Value) (size : Nat) (ht : P.underlying t = some (.slice e)) (hi : P.info? e = some i0) (hz : i0.zero = some z) (hzs : z.cells.size = size) (h1 : ∀ u ∈ z.cells, u.oneCell' = true)
 (g o n c : Nat) (cur : Array Value) (hg : w.heap[g]? = some (.cells cur te (0, 0))) (hn : 0 < n) (hs : 0 < size) (hfit : o + n * size <= cur.size) :
 (Builtin.clear_ #[t] ty #[.slice (some ⟨g, o, none⟩) n c]).run P w = .ok (.tuple #[]) (w.setRow g (lay cur.toList o (Builtin.zeroCells z.cells n).toList).toArray) := by
 have hzl : (Builtin.zeroCells z.cells n).toList.length = n * size := by rw [Array.length_toList, size_zeroCells, hzs]
 have hone : ∀ u ∈ (Builtin.zeroCells z.cells n).toList, u.oneCell' = true := by
  intro u hu
  simp only [Builtin.zeroCells, Array.toList_map, List.mem_map] at hu
  obtain ⟨k, _, rfl⟩ := hu
  have hlt : k % z.cells.size < z.cells.size := Nat.mod_lt _ (by omega)
  rw [getElem!_pos z.cells _ hlt]
  exact h1 _ (Array.getElem_mem hlt)
 have hst := run_storeCells_at P g o te (Builtin.zeroCells z.cells n).toList 0 cur w hg (by rw [hzl]; omega) hone
 obtain ⟨m, rfl⟩ : ∃ m, n = m + 1 := ⟨n - 1, by omega⟩
 unfold lay
 simp [Builtin.clear_, run_underlying ht, zeroValue, typeInfo, hi, hz, hst]
theorem Own.clear {w : World} {B : Nat} {e : TypeId} {g o n c i : Nat} {xs : List Value} (t : TypeId) (i0 : TypeInfo) (z : Value) (size : Nat) (ht : P.underlying t = some (.slice e)) (hi : P.info? e = some i0) (hz : i0.zero = some z) (hzs : z.cells.size = size) (h1' : z.cells.all (fun u => u.oneCell') = true) (hs : 0 < size)
 (h : Own w B e size (.slice (some ⟨g, o, none⟩) n c) n xs) (hin : i < n) :
 ∃ w', (∀ ty c', (Builtin.clear_ #[t] ty #[.slice (some ⟨g, o + i * size, none⟩) (n - i) c']).run P w = .ok (.tuple #[]) w') /\ Own w' B e size (.slice (some ⟨g, o, none⟩) i c) i (xs.take (i * size)) /\ w.grownBy w' (some g) := by
 have h1 : ∀ u ∈ z.cells, u.oneCell' = true := fun u hu => Array.all_eq_true_iff_forall_mem.1 h1' u hu
 rcases h.2 with ⟨h0, _⟩ | ⟨g', o', cap, cur, hv, hb, hg, h2, h3, h4, h5⟩
 ·cases h0
 injection hv with e1 _ e3
 injection e1 with e1
 injection e1 with e1 e2
 subst e1; subst e2; subst e3
 have hni : (n - i) * size + i * size = n * size := by rw [<- Nat.add_mul]; congr 1; omega
 have hnc : n * size <= c * size := Nat.mul_le_mul_right _ h2
 have hic : i * size <= n * size := Nat.mul_le_mul_right _ (by omega)
 have hzl : (Builtin.zeroCells z.cells (n - i)).toList.length = (n - i) * size := by rw [Array.length_toList, size_zeroCells, hzs]
 refine ⟨_, fun ty c' => run_clear_q w t ty e e i0 z size ht hi hz hzs h1 g (o + i * size) (n - i) c' cur hg (by omega) hs (by omega), ⟨by rw [List.length_take, h.1]; omega, .inr ⟨g, o, c, _, rfl, hb, setRow_heap w g cur _ e _ hg, by omega, h3, ?_, ?_⟩⟩, grownBy_setRow⟩
 ·rw [List.size_toArray, lay_length (by rw [hzl, Array.length_toList]; omega), Array.length_toList]; omega
 show ((lay cur.toList (o + i * size) _).drop o).take (i * size) = _
 unfold lay
 rw [List.append_assoc, List.drop_append_of_le_length (by rw [List.length_take, Array.length_toList]; omega), List.take_append_of_le_length (by rw [List.length_drop, List.length_take, Array.length_toList]; omega), <- h5, List.take_take, Nat.min_eq_left hic, List.drop_take, List.take_take]
 congr 1
 omega
theorem wpList_clear_q (w : World) {ops : Array Oper} {rest : List Oper} {o : Oper} {a : Act} {Q : Exit -> Act -> World -> Prop} (hgd : o.guard = none) (s : Operand) (t : TypeId)
 (ho : o.op = .call { callee := .builtin .clear, args := #[s], argTypes := #[t] }) (v : Value) (hs : a.eval s = v) {v' : Value} {w' : World}
 (hr : (Builtin.clear_ #[t] o.type #[v]).run P w = .ok v' w') (h : wpList P ops Q rest (a.put o.dst v') w') : wpList P ops Q (o :: rest) a w := by
 refine wpList_plain hgd fun _ hK => ?_
 unfold Oper.wp execOp
 simp only [ho, resolve, invoke, builtin, Sem.run_bind, Sem.run_pure, Result.andThen_ok, List.map_toArray, List.map_cons, List.map_nil, hs, hr]
 exact hK _ _ h
end
def PredG {D : Type} (P : Program) (g : Nat) (caps : Array Value) (V : D -> Value -> Prop) (p : D -> Bool) (row : Option Nat) (w : World) : Prop :=
 ∀ x u wx, w.grownBy wx row -> V x u -> Calls P g (#[u] ++ caps) wx (fun e w' => e = .returned (.bool (p x)) /\ Below wx.heap.size wx w')
theorem Own.shift {P : Program} {w : World} {B : Nat} {e : TypeId} {g o n c i sz : Nat} {xs : List Value} (t : TypeId) (i0 : TypeInfo) (ht : P.underlying t = some (.slice e)) (hi : P.info? e = some i0) (hs : i0.size = sz)
 (h : Own w B e sz (.slice (some ⟨g, o, none⟩) n c) n xs) (hx1 : ∀ u ∈ xs, u.oneCell' = true) (hin : i < n) (a : Addr) (ha : ∀ j u, (xs.drop ((i + 1) * sz))[j]? = some u -> w.cell? (a.add j) = some u) :
 ∃ w', (∀ ty c', (Builtin.append_ #[t, t] ty #[.slice (some ⟨g, o, none⟩) i c, .slice (some a) (n - (i + 1)) c']).run P w = .ok (.slice (some ⟨g, o, none⟩) (n - 1) c) w') /\
  Own w' B e sz (.slice (some ⟨g, o, none⟩) n c) n (xs.take (i * sz) ++ xs.drop ((i + 1) * sz) ++ xs.drop ((n - 1) * sz)) /\ w.grownBy w' (some g) := by
 rcases h.2 with ⟨h0, _⟩ | ⟨g', o', cap, cur, hv, hb, hg, h2, h3, h4, h5⟩
 ·cases h0
 injection hv with e1 _ e3
 injection e1 with e1
 injection e1 with e1 e2
 subst e1; subst e2; subst e3
 have hlen := h.1
 have hnc : n * sz <= c * sz := Nat.mul_le_mul_right _ h2
 have hin2 : i * sz + sz <= n * sz := by have := Nat.mul_le_mul_right sz (show i + 1 <= n by omega); rw [Nat.add_mul, Nat.one_mul] at this; exact this
 have e5 : (i + 1) * sz = i * sz + sz := by rw [Nat.add_mul, Nat.one_mul]
 have e6 : (n - 1) * sz = n * sz - sz := by rw [Nat.sub_mul, Nat.one_mul]
 have e7 : (n - (i + 1)) * sz = n * sz - (i * sz + sz) := by rw [Nat.sub_mul, e5]
 have hdl : (xs.drop ((i + 1) * sz)).length = (n - (i + 1)) * sz := by rw [List.length_drop, hlen, Nat.sub_mul]
 have e8 : i + (n - (i + 1)) = n - 1 := by omega
 refine ⟨w.setRow g (cur.toList.take (o + i * sz) ++ xs.drop ((i + 1) * sz) ++ cur.toList.drop (o + i * sz + (xs.drop ((i + 1) * sz)).length)).toArray, fun ty c' => ?_, ⟨?_, .inr ⟨g, o, c, _, rfl, hb, setRow_heap w g cur _ e _ hg, h2, h3, ?_, ?_⟩⟩, grownBy_setRow⟩
 ·have := run_append_at (P := P) w t ty e i0 ht hi g o i c cur hg a (n - (i + 1)) c' (xs.drop ((i + 1) * sz)) (by rw [hs, hdl]) ha (fun u hu => hx1 u (List.mem_of_mem_drop hu)) (by omega) (by rw [hs, hdl, e7]; omega)
  rw [hs, e8] at this
  exact this
 ·simp only [List.length_append, List.length_take, List.length_drop, hlen, e5, e6]
  omega
 ·simp only [List.size_toArray, List.length_append, List.length_take, List.length_drop, Array.length_toList, hlen, e5]
  omega
 have hcl : cur.toList = cur.toList.take o ++ xs ++ cur.toList.drop (o + n * sz) := by
  conv => lhs; rw [<- List.take_append_drop o cur.toList, <- List.take_append_drop (n * sz) (cur.toList.drop o), h5]
  rw [List.drop_drop, List.append_assoc]
 have hol : (cur.toList.take o).length = o := by simp; omega
 generalize cur.toList.take o = A at *
 generalize cur.toList.drop (o + n * sz) = C at *
 rw [hcl, hdl, e7, e5, e6]
 subst hol
 have hxs : xs = xs.take (i * sz) ++ xs.drop (i * sz) := (List.take_append_drop _ _).symm
 have t1 : (A ++ xs ++ C).take (A.length + i * sz) = A ++ xs.take (i * sz) := by
  rw [List.append_assoc, List.take_append, List.take_of_length_le (by omega), show A.length + i * sz - A.length = i * sz by omega, List.take_append_of_le_length (by omega)]
 have t2 : (A ++ xs ++ C).drop (A.length + i * sz + (n * sz - (i * sz + sz))) = xs.drop (n * sz - sz) ++ C := by
  rw [List.append_assoc, List.drop_append, List.drop_of_length_le (by omega), List.nil_append, List.drop_append_of_le_length (by omega)]
  congr 2
  omega
 rw [t1, t2]
 show ((A ++ xs.take (i * sz) ++ xs.drop (i * sz + sz) ++ (xs.drop (n * sz - sz) ++ C)).drop A.length).take (n * sz) = _
 rw [List.append_assoc, List.append_assoc, List.drop_left]
 rw [show xs.take (i * sz) ++ (xs.drop (i * sz + sz) ++ (xs.drop (n * sz - sz) ++ C)) = (xs.take (i * sz) ++ xs.drop (i * sz + sz) ++ xs.drop (n * sz - sz)) ++ C by simp]
 rw [List.take_append_of_le_length (by simp; omega), List.take_of_length_le (by simp; omega)]
end Go.Proofs.YtngbbefpphinjaaGreatDoor
