/- Parts: InsC, InsB, RecS, RecT. -/
import Derived.Test.YtfjnkidblalckaaMg03
import Derived.Test.YtfjnkidblalckaaRows
import Derived.Maps.RangeWalk
import Derived.Test.YtfjnkidblalckaaMg06
import Derived.Test.YtfjnkidblalckaaMg04
/- Plain laws of the model: what slices.Insert's own steps make of a slice that the call owns, where it grows and where it has room. No condition. -/
namespace Go.Proofs.Ytfjnkidblalckaa
open Go Go.RowKit

theorem cell_block {w w' : World} {b o : Nat} {v : Value} (hb : w'.heap[b]? = w.heap[b]?) (h : w.cell? ⟨b, o, none⟩ = some v) : w'.cell? ⟨b, o, none⟩ = some v := by
  unfold World.cell? at h ⊢
  dsimp only at h ⊢
  rw [hb]; exact h
theorem cells_at {w : World} {b : Nat} {cs : List Value} {e : TypeId} (h : w.heap[b]? = some (.cells cs.toArray e (0, 0))) {j : Nat} {u : Value} (hj : cs[j]? = some u) : w.cell? ⟨b, j, none⟩ = some u := by
  rw [cell_of_row w b j _ _ _ h]; simpa using hj

section
variable {P : Program} (w : World) (B : Nat) (e tS tV tI : TypeId) (i0 : TypeInfo) (z : Value) (sz bytes : Nat)
  (hS : P.underlying tS = some (.slice e)) (hI : P.underlying tI = some (.int .i64)) (ei : P.info? e = some i0) (ez : i0.zero = some z) (ez1 : i0.size = sz) (ez2 : i0.bytes = bytes) (hzs : z.cells.size = sz) (hsz : 0 < sz) (hby : bytes ≤ 4096)
  (g o n cap : Nat) (xs : List Value) (hown : Own w B e sz (.slice (some ⟨g, o, none⟩) n cap) n xs) (i : Nat) (hi : i < n) (hn : n ≤ 1000000)
  (vb : Nat) (cs : List Value) (hcl : cs.length = sz) (hcs : w.heap[vb]? = some (.cells cs.toArray e (0, 0))) (h1 : ∀ u ∈ cs, u.oneCell' = true) (hx1 : ∀ u ∈ xs, u.oneCell' = true)
include hS ei ez1 hown hi hcl hcs h1 hx1 hsz

include hI ez ez2 hzs hby hn in
theorem ins_grow (hB : B ≤ w.heap.size) (hroom : cap < n + 1) : ∃ (G : Nat) (W1 W2 : World) (W3 : Nat → World), n + 1 ≤ G ∧
    (∀ ty, (Builtin.append_ #[tS, tI] ty #[.slice (some ⟨g, o, none⟩) i cap, .int .i64 ((n : Int) + 1 - (i : Int))]).run P w = .ok (.slice (some ⟨w.heap.size, 0, none⟩) (n + 1) G) W1) ∧
    (∀ ty, (Builtin.copy_ #[tS, tV] ty #[.slice (some ⟨w.heap.size, i * sz, none⟩) (n + 1 - i) (G - i), .slice (some ⟨vb, 0, none⟩) 1 1]).run P W1 = .ok (goInt 1) W2) ∧
    (∀ k ty, (Builtin.copy_ #[tS, tS] ty #[.slice (some ⟨w.heap.size, (i + 1) * sz, none⟩) (n + 1 - (i + 1)) (G - (i + 1)), .slice (some ⟨g, o + i * sz, none⟩) (n - i) (cap - i)]).run P (W2.drewN k) = .ok (goInt ((n - i : Nat) : Int)) (W3 k)) ∧
    ∀ k, Own (W3 k) B e sz (.slice (some ⟨w.heap.size, 0, none⟩) (n + 1) G) (n + 1) (xs.take (i * sz) ++ cs ++ xs.drop (i * sz)) ∧ ∀ row, w.grownBy (W3 k) row := by
  have hlen := hown.1
  have hgl : g < w.heap.size := (hown.lt g rfl).2
  have hvl : vb < w.heap.size := (Array.getElem?_eq_some_iff.1 hcs).1
  have hiz : i * sz + sz ≤ n * sz := by have := Nat.mul_le_mul_right sz (show i + 1 ≤ n by omega); rw [Nat.add_mul, Nat.one_mul] at this; exact this
  have hkk : (n : Int) + 1 - (i : Int) = ((n + 1 - i : Nat) : Int) := by omega
  have hik : i + (n + 1 - i) = n + 1 := by omega
  have htl : (xs.take (i * sz)).length = i * sz := by rw [List.length_take, hlen]; omega
  have hG1 := grownCap_ge w (n + 1) cap e
  have hG2 := grownCap_le_maxLen w (n + 1) cap e (by unfold maxLen; omega)
  have hb2 : (n + 1) * bytes ≤ 140737488355328 := Nat.le_trans (Nat.mul_le_mul (show n + 1 ≤ 1000001 by omega) hby) (by omega)
  have hb3 : (n + 1 - i) * bytes ≤ 281474976710656 := Nat.le_trans (Nat.mul_le_mul (show n + 1 - i ≤ 1000001 by omega) hby) (by omega)
  have happ : ∀ ty, (Builtin.append_ #[tS, tI] ty #[.slice (some ⟨g, o, none⟩) i cap, .int .i64 ((n : Int) + 1 - (i : Int))]).run P w =
      .ok (.slice (some ⟨w.heap.size, 0, none⟩) (n + 1) (grownCap w (n + 1) cap e)) (w.drew.alloc (.cells ((xs.take (i * sz)).toArray ++ Builtin.zeroCells z.cells (n + 1 - i) ++ Builtin.zeroCells z.cells (grownCap w (n + 1) cap e - (n + 1))) e)) := fun ty => by
    have h := Lib.run_append_grow_zeros w tS tI ty e i0 z .i64 .i64 hS hI ei ez (some ⟨g, o, none⟩) i cap (xs.take (i * sz))
      (run_firstCells_some (P := P) w.drew i0.size i ⟨g, o, none⟩ i cap (xs.take (i * sz)) (by rw [ez1]; exact htl) (fun j u hj => by
        rw [addr_add]
        rw [List.getElem?_take] at hj
        split at hj
        · exact hown.cell rfl hj
        · cases hj)) (n + 1 - i) (by omega) (by omega) (by omega) (by omega) (by rw [ez2]; exact hb3) (by rw [ez2, hik]; exact growslice_fits hroom hb2)
    rw [hik] at h
    rw [hkk]
    exact h
  generalize grownCap w (n + 1) cap e = G at happ hG1 hG2
  obtain ⟨Z, hZ1, hZ2⟩ : ∃ Z : List Value, (xs.take (i * sz)).toArray ++ Builtin.zeroCells z.cells (n + 1 - i) ++ Builtin.zeroCells z.cells (G - (n + 1)) = (xs.take (i * sz) ++ Z).toArray ∧ Z.length = (G - i) * sz := by
    refine ⟨(Builtin.zeroCells z.cells (n + 1 - i)).toList ++ (Builtin.zeroCells z.cells (G - (n + 1))).toList, by simp, ?_⟩
    simp only [List.length_append, Array.length_toList, size_zeroCells, hzs, ← Nat.add_mul]
    congr 1; omega
  rw [hZ1] at happ
  clear hZ1
  have hZs : sz + (n - i) * sz ≤ Z.length := by
    rw [hZ2]
    have := Nat.mul_le_mul_right sz (show 1 + (n - i) ≤ G - i by omega)
    rw [Nat.add_mul, Nat.one_mul] at this; exact this
  have hGs : i * sz + Z.length = G * sz := by rw [hZ2, ← Nat.add_mul]; congr 1; omega
  have g1 : (w.drew.alloc (.cells (xs.take (i * sz) ++ Z).toArray e)).heap[w.heap.size]? = some (.cells (xs.take (i * sz) ++ Z).toArray e (0, 0)) := heap_alloc_new w.drew _
  have b1 : ∀ k, k < w.heap.size → (w.drew.alloc (.cells (xs.take (i * sz) ++ Z).toArray e)).heap[k]? = w.heap[k]? := fun k hk => Below.heap_alloc w.drew _ k hk
  have o1 : w.grownBy (w.drew.alloc (.cells (xs.take (i * sz) ++ Z).toArray e)) none := ⟨rfl, rfl, rfl, by simp, fun k hk _ => b1 k hk⟩
  generalize w.drew.alloc (.cells (xs.take (i * sz) ++ Z).toArray e) = W1 at happ g1 b1 o1
  have hcp1 : ∀ ty, (Builtin.copy_ #[tS, tV] ty #[.slice (some ⟨w.heap.size, i * sz, none⟩) (n + 1 - i) (G - i), .slice (some ⟨vb, 0, none⟩) 1 1]).run P W1 = .ok (goInt 1) (W1.setRow w.heap.size (lay (xs.take (i * sz) ++ Z) (i * sz) cs).toArray) := fun ty => by
    have := run_copy_q (P := P) W1 tS tV ty e i0 w.heap.size (i * sz) (n + 1 - i) (G - i) ⟨vb, 0, none⟩ 1 1 1 _ e cs hS ei g1 (by show min 1 (n + 1 - i) = 1; omega) (by rw [ez1]; omega) (fun j u hj => by rw [addr_add, Nat.zero_add]; exact cell_block (b1 vb hvl) (cells_at hcs hj)) (by simp [htl]; omega) h1
    simpa [lay] using this
  have g2 := setRow_heap W1 w.heap.size _ (lay (xs.take (i * sz) ++ Z) (i * sz) cs).toArray e _ g1
  have b2 : ∀ k, k < w.heap.size → (W1.setRow w.heap.size (lay (xs.take (i * sz) ++ Z) (i * sz) cs).toArray).heap[k]? = w.heap[k]? := fun k hk => (setRow_other W1 w.heap.size k _ (by omega)).trans (b1 k hk)
  have o2 : w.grownBy (W1.setRow w.heap.size (lay (xs.take (i * sz) ++ Z) (i * sz) cs).toArray) none := ⟨o1.os, o1.tape, o1.output, by have := o1.size; simpa using this, fun k hk _ => b2 k hk⟩
  have hl1 : (lay (xs.take (i * sz) ++ Z) (i * sz) cs).length = (xs.take (i * sz) ++ Z).length := lay_length (by simp [htl]; omega)
  generalize W1.setRow w.heap.size (lay (xs.take (i * sz) ++ Z) (i * sz) cs).toArray = W2 at hcp1 g2 b2 o2
  have hdl : (xs.drop (i * sz)).length = (n - i) * sz := by rw [List.length_drop, hlen, Nat.sub_mul]
  have htot : (xs.take (i * sz) ++ Z).length = G * sz := by rw [List.length_append, htl]; exact hGs
  have hsm : (i + 1) * sz + (n - i) * sz ≤ G * sz := by rw [← Nat.add_mul]; exact Nat.mul_le_mul_right _ (by omega)
  refine ⟨G, W1, W2, fun k => (W2.drewN k).setRow w.heap.size (lay (lay (xs.take (i * sz) ++ Z) (i * sz) cs) ((i + 1) * sz) (xs.drop (i * sz))).toArray, hG1, happ, hcp1, fun k ty => ?_, fun k => ⟨?_, fun row => ?_⟩⟩
  · have := run_copy_q (P := P) (W2.drewN k) tS tS ty e i0 w.heap.size ((i + 1) * sz) (n + 1 - (i + 1)) (G - (i + 1)) ⟨g, o + i * sz, none⟩ (n - i) (cap - i) (n - i) _ e (xs.drop (i * sz)) hS ei g2 (by show min (n - i) (n + 1 - (i + 1)) = n - i; omega) (by rw [ez1]; exact hdl)
      (fun j u hj => by
        rw [addr_add, Nat.add_assoc]
        rw [List.getElem?_drop] at hj
        exact cell_block (b2 g hgl) (hown.cell rfl hj)) (by simp only [List.size_toArray, hl1, htot, hdl]; exact hsm) (fun u hu => hx1 u (List.mem_of_mem_drop hu))
    simpa [lay] using this
  · have hl2 : (lay (lay (xs.take (i * sz) ++ Z) (i * sz) cs) ((i + 1) * sz) (xs.drop (i * sz))).length = G * sz := by
      rw [lay_length (by rw [hl1, htot, hdl]; exact hsm), hl1, htot]
    refine ⟨?_, .inr ⟨w.heap.size, 0, G, _, rfl, hB, setRow_heap (W2.drewN k) w.heap.size _ _ e _ g2, hG1, hG2, ?_, ?_⟩⟩
    · simp only [List.length_append, htl, hcl, hdl, Nat.add_mul, Nat.one_mul, Nat.sub_mul]; omega
    · simp only [List.size_toArray, hl2]; omega
    · have := lay_insert_new (i * sz) sz (n * sz) xs cs Z hlen hcl (by omega) (by rw [Nat.sub_mul] at hZs; omega)
      rw [List.drop_zero, show (n + 1) * sz = n * sz + sz by rw [Nat.add_mul, Nat.one_mul]]
      rw [show (i + 1) * sz = i * sz + sz by rw [Nat.add_mul, Nat.one_mul]]
      exact this
  · exact ⟨o2.os, o2.tape, o2.output, by have := o2.size; simpa using this, fun k' hk' _ => (setRow_other (W2.drewN k) w.heap.size k' _ (by omega)).trans (b2 k' hk')⟩

theorem ins_room (hgv : g ≠ vb) (hroom : n + 1 ≤ cap) : ∃ (W1 : Nat → World) (W2 : Nat → Nat → World),
    (∀ k ty, (Builtin.copy_ #[tS, tS] ty #[.slice (some ⟨g, o + (i + 1) * sz, none⟩) (n + 1 - (i + 1)) (cap - (i + 1)), .slice (some ⟨g, o + i * sz, none⟩) (n + 1 - i) (cap - i)]).run P (w.drewN k) = .ok (goInt ((n - i : Nat) : Int)) (W1 k)) ∧
    (∀ k k2 ty, (Builtin.copy_ #[tS, tV] ty #[.slice (some ⟨g, o + i * sz, none⟩) (n + 1 - i) (cap - i), .slice (some ⟨vb, 0, none⟩) 1 1]).run P ((W1 k).drewN k2) = .ok (goInt 1) (W2 k k2)) ∧
    ∀ k k2, Own (W2 k k2) B e sz (.slice (some ⟨g, o, none⟩) (n + 1) cap) (n + 1) (xs.take (i * sz) ++ cs ++ xs.drop (i * sz)) ∧ w.grownBy (W2 k k2) (some g) := by
  have hlen := hown.1
  rcases hown.2 with ⟨h0, _⟩ | ⟨g', o', cap', cur, hv, hbg, hg, hnc, hcm, hfit, htk⟩
  · cases h0
  injection hv with e1 _ e3
  injection e1 with e1
  injection e1 with e1 e2
  subst e1; subst e2; subst e3
  have hiz : i * sz + sz ≤ n * sz := by have := Nat.mul_le_mul_right sz (show i + 1 ≤ n by omega); rw [Nat.add_mul, Nat.one_mul] at this; exact this
  have hns : n * sz + sz ≤ cap * sz := by have := Nat.mul_le_mul_right sz hroom; rw [Nat.add_mul, Nat.one_mul] at this; exact this
  have hdl : (xs.drop (i * sz)).length = n * sz - i * sz := by rw [List.length_drop, hlen]
  have hi1 : (i + 1) * sz = i * sz + sz := by rw [Nat.add_mul, Nat.one_mul]
  have hcl1 : (lay cur.toList (o + i * sz + sz) (xs.drop (i * sz))).length = cur.size := by rw [lay_length (by rw [hdl, Array.length_toList]; omega), Array.length_toList]
  have g1 : ∀ k, ((w.drewN k).setRow g (lay cur.toList (o + i * sz + sz) (xs.drop (i * sz))).toArray).heap[g]? = some (.cells (lay cur.toList (o + i * sz + sz) (xs.drop (i * sz))).toArray e (0, 0)) := fun k => setRow_heap (w.drewN k) g _ _ e _ hg
  have b1 : ∀ k j, j ≠ g → ((w.drewN k).setRow g (lay cur.toList (o + i * sz + sz) (xs.drop (i * sz))).toArray).heap[j]? = w.heap[j]? := fun k j hj => setRow_other (w.drewN k) g j _ hj
  refine ⟨fun k => (w.drewN k).setRow g (lay cur.toList (o + i * sz + sz) (xs.drop (i * sz))).toArray,
    fun k k2 => (((w.drewN k).setRow g (lay cur.toList (o + i * sz + sz) (xs.drop (i * sz))).toArray).drewN k2).setRow g (lay (lay cur.toList (o + i * sz + sz) (xs.drop (i * sz))) (o + i * sz) cs).toArray, fun k ty => ?_, fun k k2 ty => ?_, fun k k2 => ⟨?_, ?_⟩⟩
  · have := run_copy_q (P := P) (w.drewN k) tS tS ty e i0 g (o + (i + 1) * sz) (n + 1 - (i + 1)) (cap - (i + 1)) ⟨g, o + i * sz, none⟩ (n + 1 - i) (cap - i) (n - i) cur e (xs.drop (i * sz)) hS ei hg (by show min (n + 1 - i) (n + 1 - (i + 1)) = n - i; omega) (by rw [ez1, hdl, Nat.sub_mul])
      (fun j u hj => by
        rw [addr_add, Nat.add_assoc]
        rw [List.getElem?_drop] at hj
        exact hown.cell rfl hj) (by rw [hdl, hi1]; omega) (fun u hu => hx1 u (List.mem_of_mem_drop hu))
    rw [hi1, ← Nat.add_assoc] at this ⊢
    exact this
  · have := run_copy_q (P := P) (((w.drewN k).setRow g (lay cur.toList (o + i * sz + sz) (xs.drop (i * sz))).toArray).drewN k2) tS tV ty e i0 g (o + i * sz) (n + 1 - i) (cap - i) ⟨vb, 0, none⟩ 1 1 1 _ e cs hS ei (g1 k) (by show min 1 (n + 1 - i) = 1; omega) (by rw [ez1]; omega)
      (fun j u hj => by rw [addr_add, Nat.zero_add]; exact cell_block (b1 k vb (Ne.symm hgv)) (cells_at hcs hj)) (by simp only [List.size_toArray, hcl1]; omega) h1
    simpa [lay] using this
  · have hl2 : (lay (lay cur.toList (o + i * sz + sz) (xs.drop (i * sz))) (o + i * sz) cs).length = cur.size := by rw [lay_length (by rw [hcl1]; omega), hcl1]
    refine ⟨?_, .inr ⟨g, o, cap, _, rfl, hbg, setRow_heap _ g _ _ e _ (g1 k), hroom, hcm, ?_, ?_⟩⟩
    · simp only [List.length_append, List.length_take, hlen, hcl, hdl, Nat.add_mul, Nat.one_mul]; omega
    · simp only [List.size_toArray, hl2]; exact hfit
    · rw [show (n + 1) * sz = n * sz + sz by rw [Nat.add_mul, Nat.one_mul]]
      exact lay_insert cur.toList o (i * sz) sz (n * sz) xs cs htk hlen hcl (by omega) (by rw [Array.length_toList]; omega)
  · exact ⟨rfl, rfl, rfl, by simp, fun j hj hjg => by
      have hj' : j ≠ g := fun e => hjg (by rw [e])
      exact (setRow_other _ g j _ hj').trans (b1 k j hj')⟩

omit h1 hx1 in
theorem ins_apart (hgv : g ≠ vb) (hroom : n + 1 ≤ cap) (tR : TypeId) (lb cb o2 : Nat) :
    (Extern.SlicesOverlaps.overlaps #[tS, tS] #[tR] #[.slice (some ⟨vb, 0, none⟩) 1 1, .slice (some ⟨g, o2, none⟩) lb cb]).run P w = .ok (.bool false) w := by
  rcases hown.2 with ⟨h0, _⟩ | ⟨g', o', cap', cur, hv, hbg, hg, hnc, hcm, hfit, htk⟩
  · cases h0
  injection hv with e1 _ e3
  injection e1 with e1
  injection e1 with e1 e2
  subst e1; subst e2; subst e3
  have hpos : 0 < cur.size := by have := Nat.mul_le_mul_right sz (show 1 ≤ cap by omega); omega
  exact Lib.run_overlaps_apart w tS tR e hS sz (fun w => by simp [sizeOf, typeInfo, ei, ez1]) ⟨vb, 0, none⟩ ⟨g, o2, none⟩ 1 1 lb cb (Ne.symm hgv) e e cs.length cur.size (by simp [World.shape?, hcs]) (by simp [World.shape?, hg]) (by omega)
    (by simp [World.frozen?, hcs]) (by simp [World.frozen?, hcs])
end
end Go.Proofs.Ytfjnkidblalckaa

/- Contract: slices.Insert of one element into a slice that the call owns. -/
namespace Go.Proofs.Ytfjnkidblalckaa
open Go Go.RowKit

/-- The outcome: the new slice, of the call's own; nothing else has turned. -/
def InsR (w : World) (B : Nat) (e : TypeId) (sz : Nat) (v : Value) (n : Nat) (ys : List Value) (ed : Ending) (w' : World) : Prop :=
  ∃ v', ed = .returned v' ∧ Own w' B e sz v' (n + 1) ys ∧ w.grownBy w' v.ownBlock

/-- .. and where the new one lies. -/
def InsRA (w : World) (B : Nat) (e : TypeId) (sz : Nat) (v : Value) (n : Nat) (ys : List Value) (ed : Ending) (w' : World) : Prop :=
  ∃ v', ed = .returned v' ∧ Own w' B e sz v' (n + 1) ys ∧ w.grownBy w' v.ownBlock ∧ (v'.ownBlock = v.ownBlock ∨ ∃ k, v'.ownBlock = some k ∧ w.heap.size ≤ k)
theorem InsRA.r {w : World} {B : Nat} {e : TypeId} {sz : Nat} {v : Value} {n : Nat} {ys : List Value} {ed : Ending} {w' : World} (h : InsRA w B e sz v n ys ed w') : InsR w B e sz v n ys ed w' := by
  obtain ⟨v', h1, h2, h3, _⟩ := h
  exact ⟨v', h1, h2, h3⟩
theorem at_new {a b : Option Nat} {n : Nat} (h : a = b ∨ a = some n) : a = b ∨ ∃ k, a = some k ∧ n ≤ k := h.imp id fun h => ⟨n, h, Nat.le_refl _⟩
theorem _root_.Go.World.grownBy.drawnN {w w' : World} {row : Option Nat} (h : w.grownBy w' row) (n : Nat) : w.grownBy (w'.drewN n) row := ⟨h.os, h.tape, h.output, h.size, h.block⟩

theorem append_t2 {P : Program} (w : World) {t t2 e : TypeId} (ty : TypeId) (ht : P.underlying t = some (.slice e)) (ht2 : P.underlying t2 = some (.slice e)) (a b : Value) :
    (Builtin.append_ #[t, t2] ty #[a, b]).run P w = (Builtin.append_ #[t, t] ty #[a, b]).run P w := by
  have h1 := fun w => run_underlying (w := w) ht
  have h2 := fun w => run_underlying (w := w) ht2
  unfold Builtin.append_
  simp only [List.getElem?_toArray, List.getElem?_cons_zero, List.getElem?_cons_succ, Sem.run_bind, h1, Result.andThen_ok]
  cases a <;> simp only [Sem.run_bind, h1, h2, Result.andThen_ok]
theorem wpList_append_q2 {P : Program} (w : World) {ops : Array Oper} {rest : List Oper} {o : Oper} {a : Act} {Q : Exit → Act → World → Prop} (hgd : o.guard = none) (s x : Operand) (t t2 : TypeId)
    (ho : o.op = .call { callee := .builtin .append, args := #[s, x], argTypes := #[t, t2] }) (e : TypeId) (ht2 : P.underlying t2 = some (.slice e))
    (B : Nat) (i : TypeInfo) (z : Value) (size bytes : Nat) (ht : P.underlying t = some (.slice e)) (hi : P.info? e = some i) (hz : i.zero = some z)
    (hsize : i.size = size) (hby : i.bytes = bytes) (hzs : z.cells.size = size) (hsz : 0 < size)
    (v : Value) (n : Nat) (xs : List Value) (hs : a.eval s = v) (hown : Own w B e size v n xs)
    (A : Option Addr) (m c : Nat) (news : List Value) (hx : a.eval x = .slice A m c) (hl : news.length = m * size) (hA : 0 < m → ∃ a, A = some a ∧ ∀ j u, news[j]? = some u → w.cell? (a.add j) = some u) (h1 : ∀ u ∈ news, u.oneCell' = true)
    (h63 : n + m ≤ maxLen) (hbytes : (n + m) * bytes ≤ 140737488355328) (hbase : B ≤ w.heap.size)
    (h : ∀ v' w', Own w' B e size v' (n + m) (xs ++ news) → w.grownBy w' v.ownBlock → (v'.ownBlock = v.ownBlock ∨ v'.ownBlock = some w.heap.size) → wpList P ops Q rest (a.put o.dst v') w') : wpList P ops Q (o :: rest) a w :=
  wpList_plain hgd fun K hK => by
    obtain ⟨v', w', hr, h2, h3, h4⟩ := run_append_q (P := P) w B t o.type e i z size bytes ht hi hz hsize hby hzs hsz v n xs hown A m c news hl hA h1 h63 hbytes hbase
    have hr2 := (append_t2 w o.type ht ht2 v (.slice A m c)).trans hr
    unfold Oper.wp execOp
    simp only [ho, resolve, invoke, builtin, Sem.run_bind, Sem.run_pure, Result.andThen_ok, List.map_toArray, List.map_cons, List.map_nil, hs, hx, hr2]
    exact hK _ _ (h v' w' h2 h3 h4)

theorem ins_prp_info : (Try.prog.info? 38).map (fun i => (i.zero, i.size, i.bytes)) = some (some (.agg #[.string .empty, .int .i64 0, .int .i64 0, .string .empty]), 4, 48) := by kernel_rfl
set_option maxRecDepth 100000 in
set_option maxHeartbeats 8000000 in
theorem ins_prp_at (w : World) (B : Nat) (v : Value) (n : Nat) (xs : List Value) (hown : Own w B 38 4 v n xs) (i : Nat) (hi : i ≤ n) (vb : Nat) (cs : List Value) (hcl : cs.length = 4)
    (hcs : w.heap[vb]? = some (.cells cs.toArray 38 (0, 0))) (h1 : ∀ u ∈ cs, u.oneCell' = true) (hx1 : ∀ u ∈ xs, u.oneCell' = true) (hne : v.ownBlock ≠ some vb) (hB : B ≤ w.heap.size) (hn : n ≤ 1000000) :
    Calls Try.prog 49 #[v, .int .i64 i, .slice (some ⟨vb, 0, none⟩) 1 1] w (InsRA w B 38 4 v n (xs.take (i * 4) ++ cs ++ xs.drop (i * 4))) := by
  obtain ⟨i0, ei, ez, ez1, ez2⟩ := info_parts ins_prp_info
  have hc : ∀ (W : World), W.heap[vb]? = w.heap[vb]? → ∀ j u, cs[j]? = some u → W.cell? ⟨vb, j, none⟩ = some u := fun W hW j u hj => by
    rw [cell_of_row W vb j _ _ _ (hW.trans hcs)]; simpa using hj
  have hlen := hown.1
  by_cases hin : i = n
  · subst hin
    have e1 : xs.take (i * 4) ++ cs ++ xs.drop (i * 4) = xs ++ cs := by rw [← hlen, List.take_length, List.drop_length, List.append_nil]
    rw [e1]
    have H := hown
    rcases hown.2 with ⟨rfl, rfl⟩ | ⟨g, o, cap, cur, rfl, hbg, hg, hnc, hcm, hfit, htk⟩
    · go_enter Try.func49, Try.ntmps49
      go_wp2_with (first
        | (at_builtin; refine wpList_append_q2 _ rfl (.tmp 23) (.tmp 24) 28 27 rfl 38 Try.underlying27 B i0 (.agg #[.string .empty, .int .i64 0, .int .i64 0, .string .empty]) 4 48 Try.underlying28 ei ez ez1 ez2 rfl (by decide) (.slice none 0 0) 0 xs rfl H (some ⟨vb, 0, none⟩) 1 1 cs rfl (by omega) (fun _ => ⟨_, rfl, fun j u hj => by rw [addr_add, Nat.zero_add]; exact hc w rfl j u hj⟩) h1 (by unfold maxLen; omega) (by omega) hB ?_; intro v7 w7 hown7 hg7 hat7))
      go_ret
      exact ⟨_, rfl, hown7, hg7, at_new hat7⟩
    · go_enter Try.func49, Try.ntmps49
      go_wp2_with (first
        | (at_builtin; refine wpList_append_q2 _ rfl (.tmp 23) (.tmp 24) 28 27 rfl 38 Try.underlying27 B i0 (.agg #[.string .empty, .int .i64 0, .int .i64 0, .string .empty]) 4 48 Try.underlying28 ei ez ez1 ez2 rfl (by decide) (.slice (some ⟨g, o, none⟩) i cap) i xs rfl H (some ⟨vb, 0, none⟩) 1 1 cs rfl (by omega) (fun _ => ⟨_, rfl, fun j u hj => by rw [addr_add, Nat.zero_add]; exact hc w rfl j u hj⟩) h1 (by unfold maxLen; omega) (by omega) hB ?_; intro v7 w7 hown7 hg7 hat7))
      all_goals go_ret
      all_goals exact ⟨_, rfl, hown7, hg7, at_new hat7⟩
  · have hlt : i < n := by omega
    rcases hown.2 with ⟨_, h0⟩ | ⟨g, o, cap, cur, rfl, hbg, hg, hnc, hcm, hfit, htk⟩
    · omega
    have hgl : g < w.heap.size := (Array.getElem?_eq_some_iff.1 hg).1
    have hgv : g ≠ vb := fun e => hne (by simp [Value.ownBlock, e])
    have hin' : ¬ ((i : Int) = (n : Int)) := by omega
    have hin2 : decide ((i : Int) = (n : Int)) = false := decide_eq_false hin'
    have hlt' : (i : Int) < (n : Int) := by omega
    have hn' : (n : Int) ≤ 1000000 := by omega
    have hY : Hid (xs.take (i * 4) ++ cs ++ xs.drop (i * 4) = xs.take (i * 4) ++ cs ++ xs.drop (i * 4)) := rfl
    generalize hYY : xs.take (i * 4) ++ cs ++ xs.drop (i * 4) = ys at hY
    by_cases hroom : n + 1 ≤ cap
    · obtain ⟨W1, W2, c1, c2, hfin⟩ := ins_room (P := Try.prog) w B 38 28 27 i0 4 Try.underlying28 ei ez1 (by decide) g o n cap xs hown i hlt vb cs hcl hcs h1 hx1 hgv hroom
      have hap := ins_apart (P := Try.prog) w B 38 27 i0 4 Try.underlying27 ei ez1 (by decide) g o n cap xs hown i hlt vb cs hcl hcs hgv hroom 4
      rw [hYY] at hfin
      rw [show n + 1 - (i + 1) = n - i by omega] at c1
      have C1 := Lib.hid c1
      have C2 := Lib.hid c2
      have HF := Lib.hid hfin
      have HA := Lib.hid hap
      have hr1 : decide ((cap : Int) < (n : Int) + 1) = false := decide_eq_false (by omega)
      have hr2 : ¬ ((cap : Int) < (n : Int) + 1) := by omega
      have hr3 : n + 1 ≤ cap := hroom
      clear c1 c2 hfin hap hown hc h1 hx1 hcs hg hcl htk hlen hYY hY hne ei ez ez1 ez2
      go_enter Try.func49, Try.ntmps49
      go_wp2_with fail
      rw [run_callFunc_extern Try.func66 (by kernel_rfl) (by kernel_rfl) (by kernel_rfl) (e := Extern.SlicesOverlaps.overlaps #[27, 27] #[4]) (by kernel_rfl), HA.out]
      simp only [Result.andThen]
      rw [Oper.upon_value]
      go_wp2_with fail
      refine wp_mid_k 8 _ rfl rfl (by kernel_rfl) (by kernel_rfl) ?_
      simp only [List.take_succ_cons, List.take_zero, List.drop_succ_cons, List.drop_zero]
      repeat (go_big_quiet_step (fail))
      refine wpQuiet_nil ?_
      intro _ hw'
      obtain ⟨nq, hw''⟩ := hw'
      subst hw''
      intro K hK
      refine wp_copy_q _ (.tmp 73) (.tmp 76) _ _ rfl _ _ rfl rfl (C1.out nq _) ?_
      refine hK _ _ ?_
      refine wpQuiet_nil ?_
      intro _ hw'
      obtain ⟨nq2, hw''⟩ := hw'
      subst hw''
      go_wp2_with fail
      rw [C2.out]
      simp only [Result.andThen]
      rw [Oper.upon_value]
      go_wp2_with fail
      go_ret
      exact ⟨_, rfl, (HF.out nq nq2).1, (HF.out nq nq2).2, .inl rfl⟩
    · obtain ⟨G, W1, W2, W3, hG, c0, c1, c2, hfin⟩ := ins_grow (P := Try.prog) w B 38 28 27 3 i0 (.agg #[.string .empty, .int .i64 0, .int .i64 0, .string .empty]) 4 48 Try.underlying28 Try.underlying3 ei ez ez1 ez2 rfl (by decide) (by decide) g o n cap xs hown i hlt hn vb cs hcl hcs h1 hx1 hB (by omega)
      rw [hYY] at hfin
      rw [show n + 1 - (i + 1) = n - i by omega] at c2
      have C0 := Lib.hid c0
      have C1 := Lib.hid c1
      have C2 := Lib.hid c2
      have HF := Lib.hid hfin
      have hr1 : decide ((cap : Int) < (n : Int) + 1) = true := decide_eq_true (by omega)
      have hr2 : (cap : Int) < (n : Int) + 1 := by omega
      have hik : i ≤ n + 1 := by omega
      have hG2 : (n : Int) + 1 ≤ (G : Int) := by omega
      have hi1 : i + 1 ≤ n + 1 := by omega
      clear c0 c1 c2 hfin hown hc h1 hx1 hcs hg hcl htk hlen hYY hY hne ei ez ez1 ez2
      go_enter Try.func49, Try.ntmps49
      go_wp2_with (first
        | (at_builtin; refine wpList_append_z _ rfl (.tmp 34) (.tmp 39) _ _ rfl _ _ rfl rfl (C0.out _) ?_)
        | fail)
      rw [C1.out]
      simp only [Result.andThen]
      rw [Oper.upon_value]
      go_wp2_with fail
      go_frame
      refine wp_mid_k 8 _ rfl rfl (by kernel_rfl) (by kernel_rfl) ?_
      simp only [List.take_succ_cons, List.take_zero, List.drop_succ_cons, List.drop_zero]
      repeat (go_big_quiet_step (fail))
      refine wpQuiet_nil ?_
      intro _ hw'
      obtain ⟨nq, hw''⟩ := hw'
      subst hw''
      intro K hK
      refine wp_copy_q _ (.tmp 50) (.tmp 53) _ _ rfl _ _ rfl rfl (C2.out nq _) ?_
      refine hK _ _ ?_
      refine wpQuiet_nil ?_
      intro _ hw'
      obtain ⟨nq2, hw''⟩ := hw'
      subst hw''
      go_wp2_with fail
      go_ret
      exact ⟨_, rfl, (HF.out nq).1.drewN nq2, ((HF.out nq).2 _).drawnN nq2, .inr ⟨w.heap.size, rfl, Nat.le_refl _⟩⟩
theorem ins_prp (w : World) (B : Nat) (v : Value) (n : Nat) (xs : List Value) (hown : Own w B 38 4 v n xs) (i : Nat) (hi : i ≤ n) (vb : Nat) (cs : List Value) (hcl : cs.length = 4)
    (hcs : w.heap[vb]? = some (.cells cs.toArray 38 (0, 0))) (h1 : ∀ u ∈ cs, u.oneCell' = true) (hx1 : ∀ u ∈ xs, u.oneCell' = true) (hne : v.ownBlock ≠ some vb) (hB : B ≤ w.heap.size) (hn : n ≤ 1000000) :
    Calls Try.prog 49 #[v, .int .i64 i, .slice (some ⟨vb, 0, none⟩) 1 1] w (InsR w B 38 4 v n (xs.take (i * 4) ++ cs ++ xs.drop (i * 4))) :=
  (ins_prp_at w B v n xs hown i hi vb cs hcl hcs h1 hx1 hne hB hn).mono fun _ _ h => h.r
end Go.Proofs.Ytfjnkidblalckaa

/- Contracts: record.Find, record.Get, record.Set. -/
namespace Go.Proofs.Ytfjnkidblalckaa
open Go Go.RowKit


theorem clone_prps_info : (Try.prog.info? 38).map (fun i => (i.zero, i.size, i.bytes)) = some (some (.agg #[.string .empty, .int .i64 0, .int .i64 0, .string .empty]), 4, 48) := by kernel_rfl
set_option maxHeartbeats 2000000 in
theorem clone_prps {w : World} {v : Value} {l : List Prp} (hv : Sl prpL w v l) (hl : l.length ≤ 1048576) : Calls Try.prog 42 #[v] w (CloneR prpL 38 l w) := by
  obtain ⟨i0, ei, ez, ez1, ez2⟩ := info_parts clone_prps_info
  obtain ⟨A, c, rfl, _, _⟩ := hv.form
  obtain ⟨xs, hr, hx⟩ := Row.of_sl hv
  have hlen := hr.len
  have h1 := hr.oneCell one_prp
  have q22 : ∀ (w : World) (a : Option Addr) (n c n' c' : Nat), (binOp .eql 28 (.slice a n c) (.slice none n' c')).run Try.prog w = .ok (.bool a.isNone) w := fun w a n c n' c' => Lib.run_eql_slice_nil w _ _ a n c n' c' Try.underlying28
  cases A with
  | none =>
    have h0 : l = [] := by
      rcases Nat.eq_zero_or_pos l.length with h | h
      · exact List.eq_nil_of_length_eq_zero h
      · obtain ⟨_, _, hA, _⟩ := hx h; cases hA
    subst h0
    clear hv hr hx hlen h1
    go_enter Try.func42, Try.ntmps42
    go_wp2_with fail
    go_ret
    exact ⟨_, [], rfl, Own.nil _ _ _ _, rfl, Below.refl _ _⟩
  | some a =>
    have hX : Hid (0 < l.length → ∃ b o, (some a : Option Addr) = some ⟨b, o, none⟩ ∧ ∀ j u, xs[j]? = some u → w.cell? ⟨b, o + j, none⟩ = some u) := hx
    have hR := Lib.hid hr
    have hL := Lib.hid hlen
    have h1H := Lib.hid h1
    clear hv hr hx hlen h1
    go_enter Try.func42, Try.ntmps42
    go_wp2_with (at_builtin; refine wpList_append_q _ rfl (.tmp 5) (.tmp 6) 28 rfl w.heap.size 38 i0 (.agg #[.string .empty, .int .i64 0, .int .i64 0, .string .empty]) 4 48 Try.underlying28 ei ez ez1 ez2 rfl (by decide) (.slice (some ⟨w.heap.size, 0, none⟩) 0 0) 0 [] rfl Own.made (some a) l.length c xs rfl hL.out (fun hp => by
        obtain ⟨b, o, hA, hy⟩ := hX.out hp
        exact ⟨_, hA, fun j u hj => by rw [addr_add]; exact cell_below ((Below.refl _ _).alloc (Nat.le_refl _) _) (hy j u hj)⟩) h1H.out (by unfold maxLen; omega) (by omega) (by simp) ?_; intro v7 w7 hown7 hg7 hat7)
    have hb7 : Below w.heap.size w w7 := ((Below.refl _ _).alloc (Nat.le_refl _) _).grown hg7 (by simp) (fun k hk => Nat.le_of_eq (by simpa [Value.ownBlock] using hk))
    simp only [Nat.zero_add, List.nil_append] at hown7
    clear hg7 hat7
    go_ret
    exact ⟨_, xs, rfl, hown7, hR.out, hb7⟩

/-! ### The order of names -/
theorem less_cmp : ∀ (a b : List UInt8), Op.bytesLess a b = decide (Lib.compareBytes a b < 0)
  | [], [] => by simp [Op.bytesLess, Lib.compareBytes]
  | [], _ :: _ => by simp [Op.bytesLess, Lib.compareBytes]
  | _ :: _, [] => by simp [Op.bytesLess, Lib.compareBytes]
  | x :: a, y :: b => by
    rw [Op.bytesLess, Lib.compareBytes, less_cmp a b]
    by_cases h1 : x < y
    · simp [h1]
    · by_cases h2 : y < x
      · have : x ≠ y := fun e => by subst e; exact absurd h2 h1
        simp [h1, h2, this]
      · have e : x = y := by
          apply UInt8.toNat_inj.1
          simp [UInt8.lt_iff_toNat_lt] at h1 h2
          omega
        subst e
        simp [h1]
theorem ltS_cmp (a b : ByteArray) : ltS a b = decide (cmpS a b < 0) := by
  unfold ltS cmpS
  rw [less_cmp, ByteArray.toList_eq, ByteArray.toList_eq]
theorem prpC_mono (nm : ByteArray) : ∀ a b, prpLt a b = true → 0 ≤ prpC nm a → 0 ≤ prpC nm b := by
  intro a b h h1
  unfold prpLt at h
  rw [ltS_cmp] at h
  unfold prpC at h1 ⊢
  simp at h
  by_cases hb : cmpS b.name nm < 0
  · have := cmpS_trans h hb; omega
  · omega
theorem rec_ok {r : List Prp} (h : recE r = 0) : r.length ≤ 8 ∧ (∀ p ∈ r, prpE p = 0) ∧ chain prpLt r = true := by
  unfold recE at h
  by_cases h1 : 8 < r.length
  · rw [if_pos h1] at h; omega
  rw [if_neg h1] at h
  by_cases h2 : firstE prpE r = 0
  · rw [if_pos h2] at h
    cases hc : chain (fun a b : Prp => ltS a.name b.name) r with
    | true =>
      refine ⟨by omega, fun p hp => ?_, hc⟩
      have key : ∀ l : List Prp, firstE prpE l = 0 → ∀ p ∈ l, prpE p = 0 := by
        intro l
        induction l with
        | nil => intro _ p hp; simp at hp
        | cons a l ih =>
          intro h p hp
          rw [firstE] at h
          split at h
          · rename_i h0
            rcases List.mem_cons.1 hp with rfl | hp
            · exact h0
            · exact ih h p hp
          · rename_i h0; exact absurd h h0
      exact key r h2 p hp
    | false => rw [hc] at h; simp at h
  · rw [if_neg h2] at h; exact absurd h h2
theorem rfind1_any (d : Prp) (nm : ByteArray) (w : World) :
    Calls Try.prog 61 #[.agg #[.string d.name, .int .i64 d.v.ty, .int .i64 d.v.n, .string d.v.s], .string nm] w fun e w' => e = .returned (.int .i64 (cmpS d.name nm)) ∧ Below w.heap.size w w' := by
  go_enter Try.func61, Try.ntmps61
  go_wp2_with (go_at_call 38; refine (scmp_any _ _ _).mono ?_; rintro e w' ⟨rfl, rfl⟩)
  go_ret
  exact ⟨rfl, (Below.refl _ _).alloc (Nat.le_refl _) _⟩
theorem rfind_any (r : List Prp) (nm : ByteArray) (v : Value) (w : World) (hv : Sl prpL w v r) (hc : chain prpLt r = true) (hl : r.length ≤ 1000) :
    Calls Try.prog 43 #[v, .string nm] w fun e w' => e = .returned (.tuple #[.int .i64 (rpos r nm), .bool (rhas r nm)]) ∧ Below w.heap.size w w' := by
  have hcall := bs_prp 61 #[] (by intro args w; kernel_rfl) (.string nm) (prpC nm) r v w hv (fun d u wx _ hu => by obtain ⟨rfl, _⟩ := hu; exact rfind1_any d nm wx) (rpos r nm) hl (lowI_le _ _)
    (fun i d hi hd => low_lt hi hd) (fun i d hi hd => low_ge hc (prpC_mono nm) hi hd)
  obtain ⟨A, c, rfl, _, _⟩ := hv.form
  have HE : Hid (rhas r nm = eqAt (prpC nm) r (rpos r nm)) := rfl
  clear hv hc
  generalize eqAt (prpC nm) r (rpos r nm) = B at *
  generalize rpos r nm = K at *
  go_enter Try.func43, Try.ntmps43
  go_wp2_with fail
  refine hcall.mono ?_
  rintro e w' ⟨rfl, hb⟩
  go_wp2_with fail
  go_ret2
  exact ⟨by rw [HE.out]; rfl, hb⟩

/-! ### record.Get -/
theorem res3 {w w1 : World} {T : TypeId} {c0 c1 c2 : Value} (a b c : Value) (hB : Below w.heap.size w w1) (h : w1.heap[w.heap.size]? = some (.cells #[c0, c1, c2] T (0, 0))) :
    Below w.heap.size w (((w1.setCell ⟨w.heap.size, 0, none⟩ a).setCell ⟨w.heap.size, 1, none⟩ b).setCell ⟨w.heap.size, 2, none⟩ c) ∧
    (((w1.setCell ⟨w.heap.size, 0, none⟩ a).setCell ⟨w.heap.size, 1, none⟩ b).setCell ⟨w.heap.size, 2, none⟩ c).cell? ⟨w.heap.size, 0, none⟩ = some a ∧
    (((w1.setCell ⟨w.heap.size, 0, none⟩ a).setCell ⟨w.heap.size, 1, none⟩ b).setCell ⟨w.heap.size, 2, none⟩ c).cell? ⟨w.heap.size, 1, none⟩ = some b ∧
    (((w1.setCell ⟨w.heap.size, 0, none⟩ a).setCell ⟨w.heap.size, 1, none⟩ b).setCell ⟨w.heap.size, 2, none⟩ c).cell? ⟨w.heap.size, 2, none⟩ = some c := by
  have h3 := setCell_block (setCell_block (setCell_block h 0 a) 1 b) 2 c
  exact ⟨((hB.setCell (p := ⟨_, 0, none⟩) (Nat.le_refl _) _).setCell (p := ⟨_, 1, none⟩) (Nat.le_refl _) _).setCell (p := ⟨_, 2, none⟩) (Nat.le_refl _) _, block_cell h3 0, block_cell h3 1, block_cell h3 2⟩
def getE (r : List Prp) (nm : ByteArray) : Int := if recE r = 0 then (if rhas r nm then 0 else 5) else recE r
def noVal : Val := ⟨0, 0, .empty⟩
def getV (r : List Prp) (nm : ByteArray) : Val := if getE r nm = 0 then (match r[rpos r nm]? with | some p => p.v | none => noVal) else noVal
theorem rhas_some {r : List Prp} {nm : ByteArray} (h : rhas r nm = true) : ∃ p, r[rpos r nm]? = some p := by
  unfold rhas eqAt at h
  cases hd : r[rpos r nm]? with
  | none => rw [hd] at h; simp at h
  | some d => exact ⟨d, rfl⟩
end Go.Proofs.Ytfjnkidblalckaa

/- Contract: record.Set. -/
namespace Go.Proofs.Ytfjnkidblalckaa
open Go Go.RowKit

theorem flat_set4 (p : Prp) : ∀ (r : List Prp) (i : Nat), i < r.length → ((((r.flatMap Prp.enc).set (i * 4) (.string p.name)).set (i * 4 + 1) (.int .i64 p.v.ty)).set (i * 4 + 2) (.int .i64 p.v.n)).set (i * 4 + 3) (.string p.v.s) = (r.set i p).flatMap Prp.enc
  | [], i, h => by simp at h
  | a :: r, 0, _ => by simp [Prp.enc]
  | a :: r, i + 1, h => by
    have ih := flat_set4 p r i (by simpa using h)
    have e : (i + 1) * 4 = i * 4 + 4 := by omega
    rw [List.set_cons_succ, List.flatMap_cons, List.flatMap_cons, ← ih, e]
    rfl
def setE (r : List Prp) (p : Prp) : Int := if recE r = 0 then (if prpE p = 0 then (if rhas r p.name then 0 else if 8 ≤ r.length then 4 else 0) else prpE p) else recE r
def putP (r : List Prp) (p : Prp) : List Prp := if rhas r p.name then r.set (rpos r p.name) p else r.take (rpos r p.name) ++ p :: r.drop (rpos r p.name)
def setR (r : List Prp) (p : Prp) : List Prp := if setE r p = 0 then putP r p else []
/-- A record and an error. -/
def RetR (l : List Prp) (err : Int) (w : World) (e : Ending) (w' : World) : Prop := ∃ v, e = .returned (.tuple #[v, errV err]) ∧ Sl prpL w' v l ∧ Below w.heap.size w w'
/-- A record that is the call's own. -/
def OwnP (w : World) (B : Nat) (v : Value) (l : List Prp) : Prop := Own w B 38 4 v l.length (l.flatMap Prp.enc) ∧ ∀ x ∈ l, x.ok
theorem OwnP.nil {w : World} {B : Nat} : OwnP w B (.slice none 0 0) [] := ⟨Own.nil _ _ _ _, fun x hx => by cases hx⟩
/-- The same, the record the call's own. -/
def RetO (l : List Prp) (err : Int) (w : World) (e : Ending) (w' : World) : Prop := ∃ v, e = .returned (.tuple #[v, errV err]) ∧ OwnP w' w.heap.size v l ∧ Below w.heap.size w w'
theorem RetO.r {l : List Prp} {err : Int} {w w' : World} {e : Ending} (h : RetO l err w e w') : RetR l err w e w' := by
  obtain ⟨v, h1, h2, h3⟩ := h
  exact ⟨v, h1, h2.1.prps h2.2, h3⟩
theorem cell_box4' (w : World) (a b c d : Value) (t : TypeId) : (w.alloc (.cells #[a, b, c, d] t)).cell? ⟨w.heap.size, 0, none⟩ = some a ∧ (w.alloc (.cells #[a, b, c, d] t)).cell? ⟨w.heap.size, 1, none⟩ = some b ∧
    (w.alloc (.cells #[a, b, c, d] t)).cell? ⟨w.heap.size, 2, none⟩ = some c ∧ (w.alloc (.cells #[a, b, c, d] t)).cell? ⟨w.heap.size, 3, none⟩ = some d :=
  ⟨by rw [World.cell?_alloc_at _ _ _ _ rfl]; rfl, by rw [World.cell?_alloc_at _ _ _ _ rfl]; rfl, by rw [World.cell?_alloc_at _ _ _ _ rfl]; rfl, by rw [World.cell?_alloc_at _ _ _ _ rfl]; rfl⟩
set_option maxRecDepth 100000 in
set_option maxHeartbeats 4000000 in
theorem set_own (r : List Prp) (p : Prp) (v : Value) (w : World) (hv : Sl prpL w v r) (hp : p.ok) :
    Calls Try.prog 28 #[v, .agg #[.string p.name, .int .i64 p.v.ty, .int .i64 p.v.n, .string p.v.s]] w (RetO (setR r p) (setE r p) w) := by
  have hb0 : Below w.heap.size w (w.alloc (.cells #[.string p.name, .int .i64 p.v.ty, .int .i64 p.v.n, .string p.v.s] 38)) := (Below.refl _ _).alloc (Nat.le_refl _) _
  obtain ⟨z0, z1, z2, z3⟩ := cell_box4' w (.string p.name) (.int .i64 p.v.ty) (.int .i64 p.v.n) (.string p.v.s) 38
  have h1 := recCheck_any r v _ (hv.below hb0)
  have HV := Lib.hid hv
  obtain ⟨A, c, rfl, _, _⟩ := hv.form
  clear hv
  go_enter Try.func28, Try.ntmps28
  go_wp2_with fail
  refine h1.mono ?_
  clear h1
  rintro e w1 ⟨rfl, hb1⟩
  have hB1 := hb0.trans (hb1.mono hb0.size)
  have y0 := cell_below hb1 z0
  have y1 := cell_below hb1 z1
  have y2 := cell_below hb1 z2
  have y3 := cell_below hb1 z3
  clear z0 z1 z2 z3 hb0 hb1
  by_cases he : recE r = 0
  case neg =>
    have HE : Hid (errV (setE r p) = .iface 58 (.int .i64 (recE r)) ∧ setR r p = []) := by
      have h0 : setE r p = recE r := by unfold setE; rw [if_neg he]
      exact ⟨by rw [h0]; exact errV_some he, by unfold setR; rw [h0, if_neg he]⟩
    rw [errV_some he]
    clear he
    go_wp2_with fail
    go_ret2
    exact ⟨.slice none 0 0, by rw [HE.out.1]; rfl, by rw [HE.out.2]; exact OwnP.nil, hB1⟩
  obtain ⟨hl8, _, hch⟩ := rec_ok he
  have HE0 : Hid (setE r p = if prpE p = 0 then (if rhas r p.name then 0 else if 8 ≤ r.length then 4 else 0) else prpE p) := by unfold Hid setE; rw [if_pos he]
  rw [errV_zero he]
  clear he
  go_wp2_with fail
  refine (prop_any p hp w1).mono ?_
  rintro e w2 ⟨rfl, hb2⟩
  have hB2 := hB1.trans (hb2.mono hB1.size)
  have x0 := cell_below hb2 y0
  have x1 := cell_below hb2 y1
  have x2 := cell_below hb2 y2
  have x3 := cell_below hb2 y3
  clear y0 y1 y2 y3 hb2 hB1
  by_cases he : prpE p = 0
  case neg =>
    have HE : Hid (errV (setE r p) = .iface 58 (.int .i64 (prpE p)) ∧ setR r p = []) := by
      have h0 : setE r p = prpE p := by rw [HE0.out, if_neg he]
      exact ⟨by rw [h0]; exact errV_some he, by unfold setR; rw [h0, if_neg he]⟩
    rw [errV_some he]
    clear he
    go_wp2_with fail
    go_ret2
    exact ⟨.slice none 0 0, by rw [HE.out.1]; rfl, by rw [HE.out.2]; exact OwnP.nil, hB2⟩
  have HE : Hid (setE r p = if rhas r p.name then 0 else if 8 ≤ r.length then 4 else 0) := by unfold Hid; rw [HE0.out, if_pos he]
  rw [errV_zero he]
  have hfd := rfind_any r p.name _ w2 (HV.out.below hB2) hch (by omega)
  clear he hch HE0
  go_wp2_with fail
  refine hfd.mono ?_
  clear hfd
  rintro e w3 ⟨rfl, hb3⟩
  have hB3 := hB2.trans (hb3.mono hB2.size)
  have y0 := cell_below hb3 x0
  have y1 := cell_below hb3 x1
  have y2 := cell_below hb3 x2
  have y3 := cell_below hb3 x3
  have hK := lowI_le (prpC p.name) r
  have h3lt : w.heap.size < w3.heap.size := World.block_lt_of_cell? _ _ y0
  have HP : Hid (putP r p = if rhas r p.name then r.set (rpos r p.name) p else r.take (rpos r p.name) ++ p :: r.drop (rpos r p.name)) := rfl
  have hcl := clone_prps (HV.out.below hB3) (by omega)
  clear x0 x1 x2 x3 hb3 hB2
  go_wp2_with fail
  refine hcl.mono ?_
  clear hcl
  rintro e w4 ⟨v4, xs, rfl, hown, hrow, hb4⟩
  obtain ⟨rfl, hoks⟩ := Row.flat hrow
  have hown : Own w4 w3.heap.size 38 4 v4 r.length (r.flatMap Prp.enc) := hown
  have hB4 := hB3.trans (hb4.mono hB3.size)
  have h34 := hB3.size
  have hl4 := hb4.size
  have x0 := cell_below hb4 y0
  have x1 := cell_below hb4 y1
  have x2 := cell_below hb4 y2
  have x3 := cell_below hb4 y3
  have HO : Hid (∀ q ∈ r, q.ok) := hoks
  clear y0 y1 y2 y3 hrow hoks
  cases hq : rhas r p.name with
  | true =>
    obtain ⟨d, hd⟩ := rhas_some hq
    have hpl := (List.getElem?_eq_some_iff.1 hd).1
    have HF : Hid (setE r p = 0 ∧ setR r p = r.set (rpos r p.name) p) := by
      have h0 : setE r p = 0 := by rw [HE.out, hq]; rfl
      exact ⟨h0, by unfold setR; rw [if_pos h0, HP.out, hq]; rfl⟩
    obtain ⟨g, o, c4, rfl, hg1, hg2⟩ := hown.addr (by omega)
    have hS := flat_set4 p r (rpos r p.name) hpl
    have hlen := hown.1
    have s1 := hown.store (rpos r p.name * 4) (by omega) (.string p.name)
    have s2 := s1.store (rpos r p.name * 4 + 1) (by omega) (.int .i64 p.v.ty)
    have s3 := s2.store (rpos r p.name * 4 + 2) (by omega) (.int .i64 p.v.n)
    have s4 := s3.store (rpos r p.name * 4 + 3) (by omega) (.string p.v.s)
    rw [hS] at s4
    obtain ⟨b, o', hA, _, q0, q1, q2, q3⟩ := prp_at (hown.prps HO.out) hd
    injection hA with hA
    injection hA with hA1 hA2
    subst hA1; subst hA2
    have f0 := hown.frozen rfl (o + rpos r p.name * 4)
    have f1 := hown.frozen rfl (o + rpos r p.name * 4 + 1)
    have f2 := hown.frozen rfl (o + rpos r p.name * 4 + 2)
    have f3 := hown.frozen rfl (o + rpos r p.name * 4 + 3)
    have hne : w.heap.size ≠ g := by omega
    have HS4 := Lib.hid s4
    have hpl' : (rpos r p.name : Int) < (r.length : Int) := by omega
    have HL : Hid ((r.set (rpos r p.name) p).length = r.length) := List.length_set ..
    have HO2 : Hid (∀ q ∈ r.set (rpos r p.name) p, q.ok) := fun q hq2 => by
      rcases List.mem_or_eq_of_mem_set hq2 with h | rfl
      · exact HO.out q h
      · exact hp
    generalize rpos r p.name = K at *
    clear hq HE HP hd hS s1 s2 s3 s4 hown
    go_wp2_with fail
    go_ret2
    refine ⟨.slice (some ⟨g, o, none⟩) r.length c4, by rw [HF.out.1, errV_zero rfl]; rfl, ?_, ?_⟩
    · rw [HF.out.2]
      exact ⟨(Own.mono (by rw [HL.out]; exact HS4.out) h34), HO2.out⟩
    · exact (((hB4.setCell (p := ⟨g, _, none⟩) (by show w.heap.size ≤ g; omega) _).setCell (p := ⟨g, _, none⟩) (by show w.heap.size ≤ g; omega) _).setCell (p := ⟨g, _, none⟩) (by show w.heap.size ≤ g; omega) _).setCell (p := ⟨g, _, none⟩) (by show w.heap.size ≤ g; omega) _
  | false =>
    by_cases h8 : 8 ≤ r.length
    · have HF : Hid (setE r p = 4 ∧ setR r p = []) := by
        have h0 : setE r p = 4 := by rw [HE.out, hq]; simp [h8]
        exact ⟨h0, by unfold setR; rw [h0]; rfl⟩
      have h8' : (8 : Int) ≤ (r.length : Int) := by omega
      obtain ⟨A4, c4, rfl, _, _⟩ := hown.form
      clear hq HE HP hown
      go_wp2_with fail
      go_ret2
      exact ⟨.slice none 0 0, by rw [HF.out.1]; rfl, by rw [HF.out.2]; exact OwnP.nil, hB4⟩
    · have HF : Hid (setE r p = 0 ∧ setR r p = r.take (rpos r p.name) ++ p :: r.drop (rpos r p.name)) := by
        have h0 : setE r p = 0 := by rw [HE.out, hq]; simp [h8]
        exact ⟨h0, by unfold setR; rw [if_pos h0, HP.out, hq]; rfl⟩
      have h8' : (r.length : Int) < 8 := by omega
      have hK' : rpos r p.name ≤ r.length := hK
      have hfi := flat_insert Prp.enc_len r (rpos r p.name) hK' p
      have hil := ins_prp (w4.alloc (.cells #[.string p.name, .int .i64 p.v.ty, .int .i64 p.v.n, .string p.v.s] 38)) w3.heap.size v4 r.length (r.flatMap Prp.enc) (hown.alloc _) (rpos r p.name) hK' w4.heap.size p.enc rfl (heap_alloc_new _ _) p.enc_one (oneCell_flat Prp.enc_one r)
        (fun e => by have := (hown.lt _ e).2; omega) (by simp; omega) (by omega)
      rw [hfi] at hil
      have HOK : Hid (∀ q ∈ r.take (rpos r p.name) ++ p :: r.drop (rpos r p.name), q.ok) := fun q hq2 => by
        rcases List.mem_append.1 hq2 with h | h
        · exact HO.out q (List.mem_of_mem_take h)
        · rcases List.mem_cons.1 h with rfl | h
          · exact hp
          · exact HO.out q (List.mem_of_mem_drop h)
      have HL : Hid ((r.take (rpos r p.name) ++ p :: r.drop (rpos r p.name)).length = r.length + 1) := by unfold Hid; simp; omega
      generalize r.take (rpos r p.name) ++ p :: r.drop (rpos r p.name) = r' at *
      generalize rpos r p.name = K at *
      have HW := Lib.hid hown
      obtain ⟨A4, c4, rfl, _, _⟩ := hown.form
      clear hq HE HP hfi hown
      go_wp2_with fail
      refine hil.mono ?_
      clear hil
      rintro e w5 ⟨v5, rfl, hown5, hg5⟩
      rw [← HL.out] at hown5
      have hsl := hown5.mono h34
      have hB5 : Below w.heap.size w w5 := (hB4.alloc hB4.size _).grown hg5 (by have := hB4.size; simp; omega) (fun kk e => by have := (HW.out.lt kk e).1; omega)
      obtain ⟨A5, c5, rfl, _, _⟩ := hown5.form
      have HSL := Lib.hid hsl
      clear hg5 hown5 hsl
      go_wp2_with fail
      go_ret2
      exact ⟨.slice A5 r'.length c5, by rw [HF.out.1, errV_zero rfl]; rfl, by rw [HF.out.2]; exact ⟨HSL.out, HOK.out⟩, hB5⟩
theorem set_any (r : List Prp) (p : Prp) (v : Value) (w : World) (hv : Sl prpL w v r) (hp : p.ok) :
    Calls Try.prog 28 #[v, .agg #[.string p.name, .int .i64 p.v.ty, .int .i64 p.v.n, .string p.v.s]] w (RetR (setR r p) (setE r p) w) := (set_own r p v w hv hp).mono fun _ _ h => h.r
end Go.Proofs.Ytfjnkidblalckaa
