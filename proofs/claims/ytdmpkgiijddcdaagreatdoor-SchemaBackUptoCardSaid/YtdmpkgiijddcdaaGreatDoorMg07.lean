/- Parts: InsC, InsB, RecA, RecB, GrA, GrB, FindA, FindB. -/
import Derived.Test.YtdmpkgiijddcdaaGreatDoorMg06
import Derived.Test.YtdmpkgiijddcdaaGreatDoorRows
import Derived.Maps.RangeWalk
import Derived.Test.YtdmpkgiijddcdaaGreatDoorMg03
import Derived.Test.YtdmpkgiijddcdaaGreatDoorMg05
import Derived.Lib.Bytealg
import Derived.StillTailTactics
import Derived.Sort.Walk0
/- Plain laws of the model: what slices.Insert's own steps make of a slice that the call owns, where it grows and where it has room. No condition. -/
namespace Go.Proofs.YtdmpkgiijddcdaaGreatDoor
open Go Go.RowKit

theorem cell_block {w w' : World} {b o : Nat} {v : Value} (hb : w'.heap[b]? = w.heap[b]?) (h : w.cell? ⟨b, o, none⟩ = some v) : w'.cell? ⟨b, o, none⟩ = some v := by
  unfold World.cell? at h ⊢
  dsimp only at h ⊢
  rw [hb]; exact h
theorem cells_at {w : World} {b : Nat} {cs : List Value} {e : TypeId} (h : w.heap[b]? = some (.cells cs.toArray e (0, 0))) {j : Nat} {u : Value} (hj : cs[j]? = some u) : w.cell? ⟨b, j, none⟩ = some u := by
  rw [cell_of_row w b j _ _ _ h]; simpa using hj

section
variable {P : Program} (w : World) (B : Nat) (e tS tV tI : TypeId) (i0 : TypeInfo) (z : Value) (sz bytes : Nat)
  (hS : P.underlying tS = some (.slice e)) (hI : P.underlying tI = some (.int .i64)) (ei : P.info? e = some i0) (ez : i0.zero = some z) (ez1 : i0.size = sz) (ez2 : i0.bytes = bytes) (hzs : z.cells.size = sz) (hsz : 0 < sz) (hby : bytes ≤ 4096)
  (g o n cap : Nat) (xs : List Value) (hown : Own w B e sz (.slice (some ⟨g, o, none⟩) n cap) n xs) (i : Nat) (hi : i < n) (hn : n ≤ 1000000)
  (vb : Nat) (cs : List Value) (hcl : cs.length = sz) (hcs : w.heap[vb]? = some (.cells cs.toArray e (0, 0))) (h1 : ∀ u ∈ cs, u.oneCell' = true) (hx1 : ∀ u ∈ xs, u.oneCell' = true)
include hS ei ez1 hown hi hcl hcs h1 hx1 hsz

include hI ez ez2 hzs hby hn in
theorem ins_grow (hB : B ≤ w.heap.size) (hroom : cap < n + 1) : ∃ (G : Nat) (W1 W2 : World) (W3 : Nat → World), n + 1 ≤ G ∧
    (∀ ty, (Builtin.append_ #[tS, tI] ty #[.slice (some ⟨g, o, none⟩) i cap, .int .i64 ((n : Int) + 1 - (i : Int))]).run P w = .ok (.slice (some ⟨w.heap.size, 0, none⟩) (n + 1) G) W1) ∧
    (∀ ty, (Builtin.copy_ #[tS, tV] ty #[.slice (some ⟨w.heap.size, i * sz, none⟩) (n + 1 - i) (G - i), .slice (some ⟨vb, 0, none⟩) 1 1]).run P W1 = .ok (goInt 1) W2) ∧
    (∀ k ty, (Builtin.copy_ #[tS, tS] ty #[.slice (some ⟨w.heap.size, (i + 1) * sz, none⟩) (n + 1 - (i + 1)) (G - (i + 1)), .slice (some ⟨g, o + i * sz, none⟩) (n - i) (cap - i)]).run P (W2.drewN k) = .ok (goInt ((n - i : Nat) : Int)) (W3 k)) ∧
    ∀ k, Own (W3 k) B e sz (.slice (some ⟨w.heap.size, 0, none⟩) (n + 1) G) (n + 1) (xs.take (i * sz) ++ cs ++ xs.drop (i * sz)) ∧ ∀ row, w.grownBy (W3 k) row := by
  have hlen := hown.1
  have hgl : g < w.heap.size := (hown.lt g rfl).2
  have hvl : vb < w.heap.size := (Array.getElem?_eq_some_iff.1 hcs).1
  have hiz : i * sz + sz ≤ n * sz := by have := Nat.mul_le_mul_right sz (show i + 1 ≤ n by omega); rw [Nat.add_mul, Nat.one_mul] at this; exact this
  have hkk : (n : Int) + 1 - (i : Int) = ((n + 1 - i : Nat) : Int) := by omega
  have hik : i + (n + 1 - i) = n + 1 := by omega
  have htl : (xs.take (i * sz)).length = i * sz := by rw [List.length_take, hlen]; omega
  have hG1 := grownCap_ge w (n + 1) cap e
  have hG2 := grownCap_le_maxLen w (n + 1) cap e (by unfold maxLen; omega)
  have hb2 : (n + 1) * bytes ≤ 140737488355328 := Nat.le_trans (Nat.mul_le_mul (show n + 1 ≤ 1000001 by omega) hby) (by omega)
  have hb3 : (n + 1 - i) * bytes ≤ 281474976710656 := Nat.le_trans (Nat.mul_le_mul (show n + 1 - i ≤ 1000001 by omega) hby) (by omega)
  have happ : ∀ ty, (Builtin.append_ #[tS, tI] ty #[.slice (some ⟨g, o, none⟩) i cap, .int .i64 ((n : Int) + 1 - (i : Int))]).run P w =
      .ok (.slice (some ⟨w.heap.size, 0, none⟩) (n + 1) (grownCap w (n + 1) cap e)) (w.drew.alloc (.cells ((xs.take (i * sz)).toArray ++ Builtin.zeroCells z.cells (n + 1 - i) ++ Builtin.zeroCells z.cells (grownCap w (n + 1) cap e - (n + 1))) e)) := fun ty => by
    have h := Lib.run_append_grow_zeros w tS tI ty e i0 z .i64 .i64 hS hI ei ez (some ⟨g, o, none⟩) i cap (xs.take (i * sz))
      (run_firstCells_some (P := P) w.drew i0.size i ⟨g, o, none⟩ i cap (xs.take (i * sz)) (by rw [ez1]; exact htl) (fun j u hj => by
        rw [addr_add]
        rw [List.getElem?_take] at hj
        split at hj
        · exact hown.cell rfl hj
        · cases hj)) (n + 1 - i) (by omega) (by omega) (by omega) (by omega) (by rw [ez2]; exact hb3) (by rw [ez2, hik]; exact growslice_fits hroom hb2)
    rw [hik] at h
    rw [hkk]
    exact h
  generalize grownCap w (n + 1) cap e = G at happ hG1 hG2
  obtain ⟨Z, hZ1, hZ2⟩ : ∃ Z : List Value, (xs.take (i * sz)).toArray ++ Builtin.zeroCells z.cells (n + 1 - i) ++ Builtin.zeroCells z.cells (G - (n + 1)) = (xs.take (i * sz) ++ Z).toArray ∧ Z.length = (G - i) * sz := by
    refine ⟨(Builtin.zeroCells z.cells (n + 1 - i)).toList ++ (Builtin.zeroCells z.cells (G - (n + 1))).toList, by simp, ?_⟩
    simp only [List.length_append, Array.length_toList, size_zeroCells, hzs, ← Nat.add_mul]
    congr 1; omega
  rw [hZ1] at happ
  clear hZ1
  have hZs : sz + (n - i) * sz ≤ Z.length := by
    rw [hZ2]
    have := Nat.mul_le_mul_right sz (show 1 + (n - i) ≤ G - i by omega)
    rw [Nat.add_mul, Nat.one_mul] at this; exact this
  have hGs : i * sz + Z.length = G * sz := by rw [hZ2, ← Nat.add_mul]; congr 1; omega
  have g1 : (w.drew.alloc (.cells (xs.take (i * sz) ++ Z).toArray e)).heap[w.heap.size]? = some (.cells (xs.take (i * sz) ++ Z).toArray e (0, 0)) := heap_alloc_new w.drew _
  have b1 : ∀ k, k < w.heap.size → (w.drew.alloc (.cells (xs.take (i * sz) ++ Z).toArray e)).heap[k]? = w.heap[k]? := fun k hk => Below.heap_alloc w.drew _ k hk
  have o1 : w.grownBy (w.drew.alloc (.cells (xs.take (i * sz) ++ Z).toArray e)) none := ⟨rfl, rfl, rfl, by simp, fun k hk _ => b1 k hk⟩
  generalize w.drew.alloc (.cells (xs.take (i * sz) ++ Z).toArray e) = W1 at happ g1 b1 o1
  have hcp1 : ∀ ty, (Builtin.copy_ #[tS, tV] ty #[.slice (some ⟨w.heap.size, i * sz, none⟩) (n + 1 - i) (G - i), .slice (some ⟨vb, 0, none⟩) 1 1]).run P W1 = .ok (goInt 1) (W1.setRow w.heap.size (lay (xs.take (i * sz) ++ Z) (i * sz) cs).toArray) := fun ty => by
    have := run_copy_q (P := P) W1 tS tV ty e i0 w.heap.size (i * sz) (n + 1 - i) (G - i) ⟨vb, 0, none⟩ 1 1 1 _ e cs hS ei g1 (by show min 1 (n + 1 - i) = 1; omega) (by rw [ez1]; omega) (fun j u hj => by rw [addr_add, Nat.zero_add]; exact cell_block (b1 vb hvl) (cells_at hcs hj)) (by simp [htl]; omega) h1
    simpa [lay] using this
  have g2 := setRow_heap W1 w.heap.size _ (lay (xs.take (i * sz) ++ Z) (i * sz) cs).toArray e _ g1
  have b2 : ∀ k, k < w.heap.size → (W1.setRow w.heap.size (lay (xs.take (i * sz) ++ Z) (i * sz) cs).toArray).heap[k]? = w.heap[k]? := fun k hk => (setRow_other W1 w.heap.size k _ (by omega)).trans (b1 k hk)
  have o2 : w.grownBy (W1.setRow w.heap.size (lay (xs.take (i * sz) ++ Z) (i * sz) cs).toArray) none := ⟨o1.os, o1.tape, o1.output, by have := o1.size; simpa using this, fun k hk _ => b2 k hk⟩
  have hl1 : (lay (xs.take (i * sz) ++ Z) (i * sz) cs).length = (xs.take (i * sz) ++ Z).length := lay_length (by simp [htl]; omega)
  generalize W1.setRow w.heap.size (lay (xs.take (i * sz) ++ Z) (i * sz) cs).toArray = W2 at hcp1 g2 b2 o2
  have hdl : (xs.drop (i * sz)).length = (n - i) * sz := by rw [List.length_drop, hlen, Nat.sub_mul]
  have htot : (xs.take (i * sz) ++ Z).length = G * sz := by rw [List.length_append, htl]; exact hGs
  have hsm : (i + 1) * sz + (n - i) * sz ≤ G * sz := by rw [← Nat.add_mul]; exact Nat.mul_le_mul_right _ (by omega)
  refine ⟨G, W1, W2, fun k => (W2.drewN k).setRow w.heap.size (lay (lay (xs.take (i * sz) ++ Z) (i * sz) cs) ((i + 1) * sz) (xs.drop (i * sz))).toArray, hG1, happ, hcp1, fun k ty => ?_, fun k => ⟨?_, fun row => ?_⟩⟩
  · have := run_copy_q (P := P) (W2.drewN k) tS tS ty e i0 w.heap.size ((i + 1) * sz) (n + 1 - (i + 1)) (G - (i + 1)) ⟨g, o + i * sz, none⟩ (n - i) (cap - i) (n - i) _ e (xs.drop (i * sz)) hS ei g2 (by show min (n - i) (n + 1 - (i + 1)) = n - i; omega) (by rw [ez1]; exact hdl)
      (fun j u hj => by
        rw [addr_add, Nat.add_assoc]
        rw [List.getElem?_drop] at hj
        exact cell_block (b2 g hgl) (hown.cell rfl hj)) (by simp only [List.size_toArray, hl1, htot, hdl]; exact hsm) (fun u hu => hx1 u (List.mem_of_mem_drop hu))
    simpa [lay] using this
  · have hl2 : (lay (lay (xs.take (i * sz) ++ Z) (i * sz) cs) ((i + 1) * sz) (xs.drop (i * sz))).length = G * sz := by
      rw [lay_length (by rw [hl1, htot, hdl]; exact hsm), hl1, htot]
    refine ⟨?_, .inr ⟨w.heap.size, 0, G, _, rfl, hB, setRow_heap (W2.drewN k) w.heap.size _ _ e _ g2, hG1, hG2, ?_, ?_⟩⟩
    · simp only [List.length_append, htl, hcl, hdl, Nat.add_mul, Nat.one_mul, Nat.sub_mul]; omega
    · simp only [List.size_toArray, hl2]; omega
    · have := lay_insert_new (i * sz) sz (n * sz) xs cs Z hlen hcl (by omega) (by rw [Nat.sub_mul] at hZs; omega)
      rw [List.drop_zero, show (n + 1) * sz = n * sz + sz by rw [Nat.add_mul, Nat.one_mul]]
      rw [show (i + 1) * sz = i * sz + sz by rw [Nat.add_mul, Nat.one_mul]]
      exact this
  · exact ⟨o2.os, o2.tape, o2.output, by have := o2.size; simpa using this, fun k' hk' _ => (setRow_other (W2.drewN k) w.heap.size k' _ (by omega)).trans (b2 k' hk')⟩

theorem ins_room (hgv : g ≠ vb) (hroom : n + 1 ≤ cap) : ∃ (W1 : Nat → World) (W2 : Nat → Nat → World),
    (∀ k ty, (Builtin.copy_ #[tS, tS] ty #[.slice (some ⟨g, o + (i + 1) * sz, none⟩) (n + 1 - (i + 1)) (cap - (i + 1)), .slice (some ⟨g, o + i * sz, none⟩) (n + 1 - i) (cap - i)]).run P (w.drewN k) = .ok (goInt ((n - i : Nat) : Int)) (W1 k)) ∧
    (∀ k k2 ty, (Builtin.copy_ #[tS, tV] ty #[.slice (some ⟨g, o + i * sz, none⟩) (n + 1 - i) (cap - i), .slice (some ⟨vb, 0, none⟩) 1 1]).run P ((W1 k).drewN k2) = .ok (goInt 1) (W2 k k2)) ∧
    ∀ k k2, Own (W2 k k2) B e sz (.slice (some ⟨g, o, none⟩) (n + 1) cap) (n + 1) (xs.take (i * sz) ++ cs ++ xs.drop (i * sz)) ∧ w.grownBy (W2 k k2) (some g) := by
  have hlen := hown.1
  rcases hown.2 with ⟨h0, _⟩ | ⟨g', o', cap', cur, hv, hbg, hg, hnc, hcm, hfit, htk⟩
  · cases h0
  injection hv with e1 _ e3
  injection e1 with e1
  injection e1 with e1 e2
  subst e1; subst e2; subst e3
  have hiz : i * sz + sz ≤ n * sz := by have := Nat.mul_le_mul_right sz (show i + 1 ≤ n by omega); rw [Nat.add_mul, Nat.one_mul] at this; exact this
  have hns : n * sz + sz ≤ cap * sz := by have := Nat.mul_le_mul_right sz hroom; rw [Nat.add_mul, Nat.one_mul] at this; exact this
  have hdl : (xs.drop (i * sz)).length = n * sz - i * sz := by rw [List.length_drop, hlen]
  have hi1 : (i + 1) * sz = i * sz + sz := by rw [Nat.add_mul, Nat.one_mul]
  have hcl1 : (lay cur.toList (o + i * sz + sz) (xs.drop (i * sz))).length = cur.size := by rw [lay_length (by rw [hdl, Array.length_toList]; omega), Array.length_toList]
  have g1 : ∀ k, ((w.drewN k).setRow g (lay cur.toList (o + i * sz + sz) (xs.drop (i * sz))).toArray).heap[g]? = some (.cells (lay cur.toList (o + i * sz + sz) (xs.drop (i * sz))).toArray e (0, 0)) := fun k => setRow_heap (w.drewN k) g _ _ e _ hg
  have b1 : ∀ k j, j ≠ g → ((w.drewN k).setRow g (lay cur.toList (o + i * sz + sz) (xs.drop (i * sz))).toArray).heap[j]? = w.heap[j]? := fun k j hj => setRow_other (w.drewN k) g j _ hj
  refine ⟨fun k => (w.drewN k).setRow g (lay cur.toList (o + i * sz + sz) (xs.drop (i * sz))).toArray,
    fun k k2 => (((w.drewN k).setRow g (lay cur.toList (o + i * sz + sz) (xs.drop (i * sz))).toArray).drewN k2).setRow g (lay (lay cur.toList (o + i * sz + sz) (xs.drop (i * sz))) (o + i * sz) cs).toArray, fun k ty => ?_, fun k k2 ty => ?_, fun k k2 => ⟨?_, ?_⟩⟩
  · have := run_copy_q (P := P) (w.drewN k) tS tS ty e i0 g (o + (i + 1) * sz) (n + 1 - (i + 1)) (cap - (i + 1)) ⟨g, o + i * sz, none⟩ (n + 1 - i) (cap - i) (n - i) cur e (xs.drop (i * sz)) hS ei hg (by show min (n + 1 - i) (n + 1 - (i + 1)) = n - i; omega) (by rw [ez1, hdl, Nat.sub_mul])
      (fun j u hj => by
        rw [addr_add, Nat.add_assoc]
        rw [List.getElem?_drop] at hj
        exact hown.cell rfl hj) (by rw [hdl, hi1]; omega) (fun u hu => hx1 u (List.mem_of_mem_drop hu))
    rw [hi1, ← Nat.add_assoc] at this ⊢
    exact this
  · have := run_copy_q (P := P) (((w.drewN k).setRow g (lay cur.toList (o + i * sz + sz) (xs.drop (i * sz))).toArray).drewN k2) tS tV ty e i0 g (o + i * sz) (n + 1 - i) (cap - i) ⟨vb, 0, none⟩ 1 1 1 _ e cs hS ei (g1 k) (by show min 1 (n + 1 - i) = 1; omega) (by rw [ez1]; omega)
      (fun j u hj => by rw [addr_add, Nat.zero_add]; exact cell_block (b1 k vb (Ne.symm hgv)) (cells_at hcs hj)) (by simp only [List.size_toArray, hcl1]; omega) h1
    simpa [lay] using this
  · have hl2 : (lay (lay cur.toList (o + i * sz + sz) (xs.drop (i * sz))) (o + i * sz) cs).length = cur.size := by rw [lay_length (by rw [hcl1]; omega), hcl1]
    refine ⟨?_, .inr ⟨g, o, cap, _, rfl, hbg, setRow_heap _ g _ _ e _ (g1 k), hroom, hcm, ?_, ?_⟩⟩
    · simp only [List.length_append, List.length_take, hlen, hcl, hdl, Nat.add_mul, Nat.one_mul]; omega
    · simp only [List.size_toArray, hl2]; exact hfit
    · rw [show (n + 1) * sz = n * sz + sz by rw [Nat.add_mul, Nat.one_mul]]
      exact lay_insert cur.toList o (i * sz) sz (n * sz) xs cs htk hlen hcl (by omega) (by rw [Array.length_toList]; omega)
  · exact ⟨rfl, rfl, rfl, by simp, fun j hj hjg => by
      have hj' : j ≠ g := fun e => hjg (by rw [e])
      exact (setRow_other _ g j _ hj').trans (b1 k j hj')⟩

omit h1 hx1 in
theorem ins_apart (hgv : g ≠ vb) (hroom : n + 1 ≤ cap) (tR : TypeId) (lb cb o2 : Nat) :
    (Extern.SlicesOverlaps.overlaps #[tS, tS] #[tR] #[.slice (some ⟨vb, 0, none⟩) 1 1, .slice (some ⟨g, o2, none⟩) lb cb]).run P w = .ok (.bool false) w := by
  rcases hown.2 with ⟨h0, _⟩ | ⟨g', o', cap', cur, hv, hbg, hg, hnc, hcm, hfit, htk⟩
  · cases h0
  injection hv with e1 _ e3
  injection e1 with e1
  injection e1 with e1 e2
  subst e1; subst e2; subst e3
  have hpos : 0 < cur.size := by have := Nat.mul_le_mul_right sz (show 1 ≤ cap by omega); omega
  exact Lib.run_overlaps_apart w tS tR e hS sz (fun w => by simp [sizeOf, typeInfo, ei, ez1]) ⟨vb, 0, none⟩ ⟨g, o2, none⟩ 1 1 lb cb (Ne.symm hgv) e e cs.length cur.size (by simp [World.shape?, hcs]) (by simp [World.shape?, hg]) (by omega)
    (by simp [World.frozen?, hcs]) (by simp [World.frozen?, hcs])
end

/-- The outcome: the new slice, of the call's own; nothing else has turned. -/
def InsR (w : World) (B : Nat) (e : TypeId) (sz : Nat) (v : Value) (n : Nat) (ys : List Value) (ed : Ending) (w' : World) : Prop :=
  ∃ v', ed = .returned v' ∧ Own w' B e sz v' (n + 1) ys ∧ w.grownBy w' v.ownBlock

/-- .. and where the new one lies. -/
def InsRA (w : World) (B : Nat) (e : TypeId) (sz : Nat) (v : Value) (n : Nat) (ys : List Value) (ed : Ending) (w' : World) : Prop :=
  ∃ v', ed = .returned v' ∧ Own w' B e sz v' (n + 1) ys ∧ w.grownBy w' v.ownBlock ∧ (v'.ownBlock = v.ownBlock ∨ ∃ k, v'.ownBlock = some k ∧ w.heap.size ≤ k)
theorem InsRA.r {w : World} {B : Nat} {e : TypeId} {sz : Nat} {v : Value} {n : Nat} {ys : List Value} {ed : Ending} {w' : World} (h : InsRA w B e sz v n ys ed w') : InsR w B e sz v n ys ed w' := by
  obtain ⟨v', h1, h2, h3, _⟩ := h
  exact ⟨v', h1, h2, h3⟩
theorem at_new {a b : Option Nat} {n : Nat} (h : a = b ∨ a = some n) : a = b ∨ ∃ k, a = some k ∧ n ≤ k := h.imp id fun h => ⟨n, h, Nat.le_refl _⟩
theorem _root_.Go.World.grownBy.drawnN {w w' : World} {row : Option Nat} (h : w.grownBy w' row) (n : Nat) : w.grownBy (w'.drewN n) row := ⟨h.os, h.tape, h.output, h.size, h.block⟩

theorem append_t2 {P : Program} (w : World) {t t2 e : TypeId} (ty : TypeId) (ht : P.underlying t = some (.slice e)) (ht2 : P.underlying t2 = some (.slice e)) (a b : Value) :
    (Builtin.append_ #[t, t2] ty #[a, b]).run P w = (Builtin.append_ #[t, t] ty #[a, b]).run P w := by
  have h1 := fun w => run_underlying (w := w) ht
  have h2 := fun w => run_underlying (w := w) ht2
  unfold Builtin.append_
  simp only [List.getElem?_toArray, List.getElem?_cons_zero, List.getElem?_cons_succ, Sem.run_bind, h1, Result.andThen_ok]
  cases a <;> simp only [Sem.run_bind, h1, h2, Result.andThen_ok]
theorem wpList_append_q2 {P : Program} (w : World) {ops : Array Oper} {rest : List Oper} {o : Oper} {a : Act} {Q : Exit → Act → World → Prop} (hgd : o.guard = none) (s x : Operand) (t t2 : TypeId)
    (ho : o.op = .call { callee := .builtin .append, args := #[s, x], argTypes := #[t, t2] }) (e : TypeId) (ht2 : P.underlying t2 = some (.slice e))
    (B : Nat) (i : TypeInfo) (z : Value) (size bytes : Nat) (ht : P.underlying t = some (.slice e)) (hi : P.info? e = some i) (hz : i.zero = some z)
    (hsize : i.size = size) (hby : i.bytes = bytes) (hzs : z.cells.size = size) (hsz : 0 < size)
    (v : Value) (n : Nat) (xs : List Value) (hs : a.eval s = v) (hown : Own w B e size v n xs)
    (A : Option Addr) (m c : Nat) (news : List Value) (hx : a.eval x = .slice A m c) (hl : news.length = m * size) (hA : 0 < m → ∃ a, A = some a ∧ ∀ j u, news[j]? = some u → w.cell? (a.add j) = some u) (h1 : ∀ u ∈ news, u.oneCell' = true)
    (h63 : n + m ≤ maxLen) (hbytes : (n + m) * bytes ≤ 140737488355328) (hbase : B ≤ w.heap.size)
    (h : ∀ v' w', Own w' B e size v' (n + m) (xs ++ news) → w.grownBy w' v.ownBlock → (v'.ownBlock = v.ownBlock ∨ v'.ownBlock = some w.heap.size) → wpList P ops Q rest (a.put o.dst v') w') : wpList P ops Q (o :: rest) a w :=
  wpList_plain hgd fun K hK => by
    obtain ⟨v', w', hr, h2, h3, h4⟩ := run_append_q (P := P) w B t o.type e i z size bytes ht hi hz hsize hby hzs hsz v n xs hown A m c news hl hA h1 h63 hbytes hbase
    have hr2 := (append_t2 w o.type ht ht2 v (.slice A m c)).trans hr
    unfold Oper.wp execOp
    simp only [ho, resolve, invoke, builtin, Sem.run_bind, Sem.run_pure, Result.andThen_ok, List.map_toArray, List.map_cons, List.map_nil, hs, hx, hr2]
    exact hK _ _ (h v' w' h2 h3 h4)

theorem ins_fld_info : (Tryz.prog.info? 31).map (fun i => (i.zero, i.size, i.bytes)) = some (some (.agg #[.string .empty, .int .i64 0, .bool false, .bool false]), 4, 32) := by kernel_rfl
set_option maxRecDepth 100000 in
set_option maxHeartbeats 8000000 in
theorem ins_fld_at (w : World) (B : Nat) (v : Value) (n : Nat) (xs : List Value) (hown : Own w B 31 4 v n xs) (i : Nat) (hi : i ≤ n) (vb : Nat) (cs : List Value) (hcl : cs.length = 4)
    (hcs : w.heap[vb]? = some (.cells cs.toArray 31 (0, 0))) (h1 : ∀ u ∈ cs, u.oneCell' = true) (hx1 : ∀ u ∈ xs, u.oneCell' = true) (hne : v.ownBlock ≠ some vb) (hB : B ≤ w.heap.size) (hn : n ≤ 1000000) :
    Calls Tryz.prog 198 #[v, .int .i64 i, .slice (some ⟨vb, 0, none⟩) 1 1] w (InsRA w B 31 4 v n (xs.take (i * 4) ++ cs ++ xs.drop (i * 4))) := by
  obtain ⟨i0, ei, ez, ez1, ez2⟩ := info_parts ins_fld_info
  have hc : ∀ (W : World), W.heap[vb]? = w.heap[vb]? → ∀ j u, cs[j]? = some u → W.cell? ⟨vb, j, none⟩ = some u := fun W hW j u hj => by
    rw [cell_of_row W vb j _ _ _ (hW.trans hcs)]; simpa using hj
  have hlen := hown.1
  by_cases hin : i = n
  · subst hin
    have e1 : xs.take (i * 4) ++ cs ++ xs.drop (i * 4) = xs ++ cs := by rw [← hlen, List.take_length, List.drop_length, List.append_nil]
    rw [e1]
    have H := hown
    rcases hown.2 with ⟨rfl, rfl⟩ | ⟨g, o, cap, cur, rfl, hbg, hg, hnc, hcm, hfit, htk⟩
    · go_enter Tryz.func198, Tryz.ntmps198
      go_wp2_with (first
        | (at_builtin; refine wpList_append_q2 _ rfl (.tmp 23) (.tmp 24) 33 33 rfl 31 Tryz.underlying33 B i0 (.agg #[.string .empty, .int .i64 0, .bool false, .bool false]) 4 32 Tryz.underlying33 ei ez ez1 ez2 rfl (by decide) (.slice none 0 0) 0 xs rfl H (some ⟨vb, 0, none⟩) 1 1 cs rfl (by omega) (fun _ => ⟨_, rfl, fun j u hj => by rw [addr_add, Nat.zero_add]; exact hc w rfl j u hj⟩) h1 (by unfold maxLen; omega) (by omega) hB ?_; intro v7 w7 hown7 hg7 hat7))
      go_ret
      exact ⟨_, rfl, hown7, hg7, at_new hat7⟩
    · go_enter Tryz.func198, Tryz.ntmps198
      go_wp2_with (first
        | (at_builtin; refine wpList_append_q2 _ rfl (.tmp 23) (.tmp 24) 33 33 rfl 31 Tryz.underlying33 B i0 (.agg #[.string .empty, .int .i64 0, .bool false, .bool false]) 4 32 Tryz.underlying33 ei ez ez1 ez2 rfl (by decide) (.slice (some ⟨g, o, none⟩) i cap) i xs rfl H (some ⟨vb, 0, none⟩) 1 1 cs rfl (by omega) (fun _ => ⟨_, rfl, fun j u hj => by rw [addr_add, Nat.zero_add]; exact hc w rfl j u hj⟩) h1 (by unfold maxLen; omega) (by omega) hB ?_; intro v7 w7 hown7 hg7 hat7))
      all_goals go_ret
      all_goals exact ⟨_, rfl, hown7, hg7, at_new hat7⟩
  · have hlt : i < n := by omega
    rcases hown.2 with ⟨_, h0⟩ | ⟨g, o, cap, cur, rfl, hbg, hg, hnc, hcm, hfit, htk⟩
    · omega
    have hgl : g < w.heap.size := (Array.getElem?_eq_some_iff.1 hg).1
    have hgv : g ≠ vb := fun e => hne (by simp [Value.ownBlock, e])
    have hin' : ¬ ((i : Int) = (n : Int)) := by omega
    have hin2 : decide ((i : Int) = (n : Int)) = false := decide_eq_false hin'
    have hlt' : (i : Int) < (n : Int) := by omega
    have hn' : (n : Int) ≤ 1000000 := by omega
    have hY : Hid (xs.take (i * 4) ++ cs ++ xs.drop (i * 4) = xs.take (i * 4) ++ cs ++ xs.drop (i * 4)) := rfl
    generalize hYY : xs.take (i * 4) ++ cs ++ xs.drop (i * 4) = ys at hY
    by_cases hroom : n + 1 ≤ cap
    · obtain ⟨W1, W2, c1, c2, hfin⟩ := ins_room (P := Tryz.prog) w B 31 33 33 i0 4 Tryz.underlying33 ei ez1 (by decide) g o n cap xs hown i hlt vb cs hcl hcs h1 hx1 hgv hroom
      have hap := ins_apart (P := Tryz.prog) w B 31 33 i0 4 Tryz.underlying33 ei ez1 (by decide) g o n cap xs hown i hlt vb cs hcl hcs hgv hroom 4
      rw [hYY] at hfin
      rw [show n + 1 - (i + 1) = n - i by omega] at c1
      have C1 := Lib.hid c1
      have C2 := Lib.hid c2
      have HF := Lib.hid hfin
      have HA := Lib.hid hap
      have hr1 : decide ((cap : Int) < (n : Int) + 1) = false := decide_eq_false (by omega)
      have hr2 : ¬ ((cap : Int) < (n : Int) + 1) := by omega
      have hr3 : n + 1 ≤ cap := hroom
      clear c1 c2 hfin hap hown hc h1 hx1 hcs hg hcl htk hlen hYY hY hne ei ez ez1 ez2
      go_enter Tryz.func198, Tryz.ntmps198
      go_wp2_with fail
      rw [run_callFunc_extern Tryz.func212 (by kernel_rfl) (by kernel_rfl) (by kernel_rfl) (e := Extern.SlicesOverlaps.overlaps #[33, 33] #[4]) (by kernel_rfl), HA.out]
      simp only [Result.andThen]
      rw [Oper.upon_value]
      go_wp2_with fail
      refine wp_mid_k 8 _ rfl rfl (by kernel_rfl) (by kernel_rfl) ?_
      simp only [List.take_succ_cons, List.take_zero, List.drop_succ_cons, List.drop_zero]
      repeat (go_big_quiet_step (fail))
      refine wpQuiet_nil ?_
      intro _ hw'
      obtain ⟨nq, hw''⟩ := hw'
      subst hw''
      intro K hK
      refine wp_copy_q _ (.tmp 73) (.tmp 76) _ _ rfl _ _ rfl rfl (C1.out nq _) ?_
      refine hK _ _ ?_
      refine wpQuiet_nil ?_
      intro _ hw'
      obtain ⟨nq2, hw''⟩ := hw'
      subst hw''
      go_wp2_with fail
      rw [C2.out]
      simp only [Result.andThen]
      rw [Oper.upon_value]
      go_wp2_with fail
      go_ret
      exact ⟨_, rfl, (HF.out nq nq2).1, (HF.out nq nq2).2, .inl rfl⟩
    · obtain ⟨G, W1, W2, W3, hG, c0, c1, c2, hfin⟩ := ins_grow (P := Tryz.prog) w B 31 33 33 3 i0 (.agg #[.string .empty, .int .i64 0, .bool false, .bool false]) 4 32 Tryz.underlying33 Tryz.underlying3 ei ez ez1 ez2 rfl (by decide) (by decide) g o n cap xs hown i hlt hn vb cs hcl hcs h1 hx1 hB (by omega)
      rw [hYY] at hfin
      rw [show n + 1 - (i + 1) = n - i by omega] at c2
      have C0 := Lib.hid c0
      have C1 := Lib.hid c1
      have C2 := Lib.hid c2
      have HF := Lib.hid hfin
      have hr1 : decide ((cap : Int) < (n : Int) + 1) = true := decide_eq_true (by omega)
      have hr2 : (cap : Int) < (n : Int) + 1 := by omega
      have hik : i ≤ n + 1 := by omega
      have hG2 : (n : Int) + 1 ≤ (G : Int) := by omega
      have hi1 : i + 1 ≤ n + 1 := by omega
      clear c0 c1 c2 hfin hown hc h1 hx1 hcs hg hcl htk hlen hYY hY hne ei ez ez1 ez2
      go_enter Tryz.func198, Tryz.ntmps198
      go_wp2_with (first
        | (at_builtin; refine wpList_append_z _ rfl (.tmp 34) (.tmp 39) _ _ rfl _ _ rfl rfl (C0.out _) ?_)
        | fail)
      rw [C1.out]
      simp only [Result.andThen]
      rw [Oper.upon_value]
      go_wp2_with fail
      go_frame
      refine wp_mid_k 8 _ rfl rfl (by kernel_rfl) (by kernel_rfl) ?_
      simp only [List.take_succ_cons, List.take_zero, List.drop_succ_cons, List.drop_zero]
      repeat (go_big_quiet_step (fail))
      refine wpQuiet_nil ?_
      intro _ hw'
      obtain ⟨nq, hw''⟩ := hw'
      subst hw''
      intro K hK
      refine wp_copy_q _ (.tmp 50) (.tmp 53) _ _ rfl _ _ rfl rfl (C2.out nq _) ?_
      refine hK _ _ ?_
      refine wpQuiet_nil ?_
      intro _ hw'
      obtain ⟨nq2, hw''⟩ := hw'
      subst hw''
      go_wp2_with fail
      go_ret
      exact ⟨_, rfl, (HF.out nq).1.drewN nq2, ((HF.out nq).2 _).drawnN nq2, .inr ⟨w.heap.size, rfl, Nat.le_refl _⟩⟩
theorem ins_fld (w : World) (B : Nat) (v : Value) (n : Nat) (xs : List Value) (hown : Own w B 31 4 v n xs) (i : Nat) (hi : i ≤ n) (vb : Nat) (cs : List Value) (hcl : cs.length = 4)
    (hcs : w.heap[vb]? = some (.cells cs.toArray 31 (0, 0))) (h1 : ∀ u ∈ cs, u.oneCell' = true) (hx1 : ∀ u ∈ xs, u.oneCell' = true) (hne : v.ownBlock ≠ some vb) (hB : B ≤ w.heap.size) (hn : n ≤ 1000000) :
    Calls Tryz.prog 198 #[v, .int .i64 i, .slice (some ⟨vb, 0, none⟩) 1 1] w (InsR w B 31 4 v n (xs.take (i * 4) ++ cs ++ xs.drop (i * 4))) :=
  (ins_fld_at w B v n xs hown i hi vb cs hcl hcs h1 hx1 hne hB hn).mono fun _ _ h => h.r
open Go.RowKit

/-- The fault of the first that has one; 0: none has. -/
def firstE {D : Type} (f : D → Int) : List D → Int
  | [] => 0
  | d :: r => if f d = 0 then firstE f r else f d
/-- Each is ahead of the next one. -/
def chain {D : Type} (R : D → D → Bool) : List D → Bool
  | a :: b :: r => R a b && chain R (b :: r)
  | _ => true
theorem chain_iff {D : Type} {R : D → D → Bool} : ∀ {l : List D}, chain R l = true ↔ ∀ i a b, l[i]? = some a → l[i + 1]? = some b → R a b = true
  | [] => by simp [chain]
  | [a] => by simp [chain]
  | a :: b :: r => by
    simp only [chain, Bool.and_eq_true]
    rw [chain_iff (l := b :: r)]
    constructor
    · rintro ⟨h1, h2⟩ i x y hx hy
      match i, hx, hy with
      | 0, hx, hy => simp at hx hy; subst hx; subst hy; exact h1
      | i + 1, hx, hy => exact h2 i x y (by simpa using hx) (by simpa using hy)
    · intro h
      exact ⟨h 0 a b rfl rfl, fun i x y hx hy => h (i + 1) x y (by simpa using hx) (by simpa using hy)⟩
/-- Is a text ahead of another one? -/
def ltS (a b : ByteArray) : Bool := Op.bytesLess a.toList b.toList

/-! ### record.prop, record.Check -/
def prpE (p : Prp) : Int := if nameE p.name = 0 then valE p.v else nameE p.name
def recE (r : List Prp) : Int := if 8 < r.length then 4 else if firstE prpE r = 0 then (if chain (fun a b => ltS a.name b.name) r then 0 else 7) else firstE prpE r



def cmpI (a b : Int) : Int := if a < b then -1 else if b < a then 1 else 0
/-- Texts by bytes: -1, 0, 1. -/
def cmpS (a b : ByteArray) : Int := Lib.compareBytes a.data.toList b.data.toList
set_option maxHeartbeats 1000000 in
set_option maxRecDepth 100000 in
theorem cmpString_any (a b : ByteArray) (w : World) :
    Calls Tryz.prog 164 #[.string a, .string b] w fun e w' => e = .returned (.int .i64 (cmpS a b)) ∧ w = w' := by
  go_enter Tryz.func164, Tryz.ntmps164
  go_wp2_with fail
  rw [run_callFunc_extern Tryz.func190 (by kernel_rfl) (by kernel_rfl) (by kernel_rfl) (e := Extern.BytealgCompare.compare) (by kernel_rfl), Lib.run_compareString]
  simp only [Result.andThen]
  rw [Oper.upon_value]
  go_wp2_with fail
  go_ret
  exact ⟨rfl, rfl⟩
theorem scmp_any (a b : ByteArray) (w : World) :
    Calls Tryz.prog 124 #[.string a, .string b] w fun e w' => e = .returned (.int .i64 (cmpS a b)) ∧ w = w' := by
  go_enter Tryz.func124, Tryz.ntmps124
  go_wp2_with (go_at_call 164; refine (cmpString_any _ _ _).mono ?_; rintro e w' ⟨rfl, rfl⟩)
  go_ret
  exact ⟨rfl, rfl⟩

theorem heap_at_new (W : World) (o : Obj) (b : Nat) (hb : b = W.heap.size) : (W.alloc o).heap[b]? = some o := by subst hb; exact heap_alloc_new _ _

/-! ### graph.OfNode, graph.OfTie, graph.Order -/

/-- The one ahead of place k. -/
def prev {D : Type} (l : List D) : Nat → Option D
  | 0 => none
  | k + 1 => l[k]?
theorem drop_cons {D : Type} {l : List D} {k : Nat} {d : D} (h : l[k]? = some d) : l.drop k = d :: l.drop (k + 1) := by
  obtain ⟨hk, rfl⟩ := List.getElem?_eq_some_iff.1 h
  exact List.drop_eq_getElem_cons hk

theorem cell_box3 (w : World) (a b c : Value) (t : TypeId) : (w.alloc (.cells #[a, b, c] t)).cell? ⟨w.heap.size, 0, none⟩ = some a ∧ (w.alloc (.cells #[a, b, c] t)).cell? ⟨w.heap.size, 1, none⟩ = some b ∧
    (w.alloc (.cells #[a, b, c] t)).cell? ⟨w.heap.size, 2, none⟩ = some c :=
  ⟨by rw [World.cell?_alloc_at _ _ _ _ rfl]; rfl, by rw [World.cell?_alloc_at _ _ _ _ rfl]; rfl, by rw [World.cell?_alloc_at _ _ _ _ rfl]; rfl⟩
theorem cell_box2 (w : World) (a b : Value) (t : TypeId) : (w.alloc (.cells #[a, b] t)).cell? ⟨w.heap.size, 0, none⟩ = some a ∧ (w.alloc (.cells #[a, b] t)).cell? ⟨w.heap.size, 1, none⟩ = some b :=
  ⟨by rw [World.cell?_alloc_at _ _ _ _ rfl]; rfl, by rw [World.cell?_alloc_at _ _ _ _ rfl]; rfl⟩


/-- What is asked of a comparing function value. -/
def CmpB {D : Type} (P : Program) (g : Nat) (caps : Array Value) (V : World → D → Value → Prop) (tv : Value) (c : D → Int) (w : World) : Prop :=
  ∀ x u wx, Below w.heap.size w wx → V wx x u → Calls P g (#[u, tv] ++ caps) wx (fun e w' => e = .returned (.int .i64 (c x)) ∧ Below wx.heap.size wx w')
/-- Is there one at that place that compares equal? -/
def eqAt {D : Type} (c : D → Int) (l : List D) (pos : Nat) : Bool := match l[pos]? with | some d => c d == 0 | none => false


/-- The first place at which c is not below 0. -/
def lowI {D : Type} (c : D → Int) (l : List D) : Nat := l.findIdx (fun d => decide (0 ≤ c d))
theorem lowI_le {D : Type} (c : D → Int) (l : List D) : lowI c l ≤ l.length := List.findIdx_le_length
theorem low_lt {D : Type} {c : D → Int} {l : List D} {i : Nat} {d : D} (h : i < lowI c l) (hi : l[i]? = some d) : c d < 0 := by
  obtain ⟨hl, rfl⟩ := List.getElem?_eq_some_iff.1 hi
  have := List.not_of_lt_findIdx h
  simp at this
  omega
theorem low_ge {D : Type} {R : D → D → Bool} {c : D → Int} {l : List D} (hc : chain R l = true) (mono : ∀ a b, R a b = true → 0 ≤ c a → 0 ≤ c b) :
    ∀ {i : Nat} {d : D}, lowI c l ≤ i → l[i]? = some d → 0 ≤ c d := by
  intro i
  induction i with
  | zero =>
    intro d h hi
    obtain ⟨hl, rfl⟩ := List.getElem?_eq_some_iff.1 hi
    have h0 : lowI c l = 0 := by omega
    have := List.findIdx_getElem (xs := l) (p := fun d => decide (0 ≤ c d)) (w := by show lowI c l < _; omega)
    simp only [decide_eq_true_eq] at this
    have e : List.findIdx (fun d => decide (0 ≤ c d)) l = 0 := h0
    simp only [e] at this
    exact this
  | succ i ih =>
    intro d h hi
    rcases Nat.lt_or_ge i (lowI c l) with h1 | h1
    · have h0 : lowI c l = i + 1 := by omega
      obtain ⟨hl, rfl⟩ := List.getElem?_eq_some_iff.1 hi
      have := List.findIdx_getElem (xs := l) (p := fun d => decide (0 ≤ c d)) (w := by show lowI c l < _; omega)
      simp only [decide_eq_true_eq] at this
      have e : List.findIdx (fun d => decide (0 ≤ c d)) l = i + 1 := h0
      simp only [e] at this
      exact this
    · have hl : i < l.length := by have := (List.getElem?_eq_some_iff.1 hi).1; omega
      have h2 := ih (d := l[i]) h1 (List.getElem?_eq_getElem hl)
      exact mono _ _ (chain_iff.1 hc i _ _ (List.getElem?_eq_getElem hl) hi) h2

/-! ### Nodes by number -/
def nodC (id : Int) (n : Nod) : Int := cmpI n.id id
def fpos (l : List Nod) (id : Int) : Nat := lowI (nodC id) l
/-! ### Properties by name -/
end Go.Proofs.YtdmpkgiijddcdaaGreatDoor
