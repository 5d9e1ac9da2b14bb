/- Parts: InsC, OwnF, ValA, DelA, DelD. -/
import Derived.Test.YtkaolglpmajeaaaGreatMg02
import Derived.Test.YtkaolglpmajeaaaGreatRows
import Derived.Test.YtkaolglpmajeaaaGreatMg01
import Derived.Deep.LoopGhost
import Derived.Shelf.GgClosure.Gives
import Derived.Lib.ConvBytes
import Derived.Maps.AppendAt
/- Plain laws of the model: what slices.Insert's own steps make of a slice that the call owns, where it grows and where it has room. No condition. -/
namespace Go.Proofs.YtkaolglpmajeaaaGreat
open Go Go.RowKit

theorem cell_block {w w' : World} {b o : Nat} {v : Value} (hb : w'.heap[b]? = w.heap[b]?) (h : w.cell? ⟨b, o, none⟩ = some v) : w'.cell? ⟨b, o, none⟩ = some v := by
  unfold World.cell? at h ⊢
  dsimp only at h ⊢
  rw [hb]; exact h
theorem cells_at {w : World} {b : Nat} {cs : List Value} {e : TypeId} (h : w.heap[b]? = some (.cells cs.toArray e (0, 0))) {j : Nat} {u : Value} (hj : cs[j]? = some u) : w.cell? ⟨b, j, none⟩ = some u := by
  rw [cell_of_row w b j _ _ _ h]; simpa using hj

section
variable {P : Program} (w : World) (B : Nat) (e tS tV tI : TypeId) (i0 : TypeInfo) (z : Value) (sz bytes : Nat)
  (hS : P.underlying tS = some (.slice e)) (hI : P.underlying tI = some (.int .i64)) (ei : P.info? e = some i0) (ez : i0.zero = some z) (ez1 : i0.size = sz) (ez2 : i0.bytes = bytes) (hzs : z.cells.size = sz) (hsz : 0 < sz) (hby : bytes ≤ 4096)
  (g o n cap : Nat) (xs : List Value) (hown : Own w B e sz (.slice (some ⟨g, o, none⟩) n cap) n xs) (i : Nat) (hi : i < n) (hn : n ≤ 1000000)
  (vb : Nat) (cs : List Value) (hcl : cs.length = sz) (hcs : w.heap[vb]? = some (.cells cs.toArray e (0, 0))) (h1 : ∀ u ∈ cs, u.oneCell' = true) (hx1 : ∀ u ∈ xs, u.oneCell' = true)
include hS ei ez1 hown hi hcl hcs h1 hx1 hsz

include hI ez ez2 hzs hby hn in
theorem ins_grow (hB : B ≤ w.heap.size) (hroom : cap < n + 1) : ∃ (G : Nat) (W1 W2 : World) (W3 : Nat → World), n + 1 ≤ G ∧
    (∀ ty, (Builtin.append_ #[tS, tI] ty #[.slice (some ⟨g, o, none⟩) i cap, .int .i64 ((n : Int) + 1 - (i : Int))]).run P w = .ok (.slice (some ⟨w.heap.size, 0, none⟩) (n + 1) G) W1) ∧
    (∀ ty, (Builtin.copy_ #[tS, tV] ty #[.slice (some ⟨w.heap.size, i * sz, none⟩) (n + 1 - i) (G - i), .slice (some ⟨vb, 0, none⟩) 1 1]).run P W1 = .ok (goInt 1) W2) ∧
    (∀ k ty, (Builtin.copy_ #[tS, tS] ty #[.slice (some ⟨w.heap.size, (i + 1) * sz, none⟩) (n + 1 - (i + 1)) (G - (i + 1)), .slice (some ⟨g, o + i * sz, none⟩) (n - i) (cap - i)]).run P (W2.drewN k) = .ok (goInt ((n - i : Nat) : Int)) (W3 k)) ∧
    ∀ k, Own (W3 k) B e sz (.slice (some ⟨w.heap.size, 0, none⟩) (n + 1) G) (n + 1) (xs.take (i * sz) ++ cs ++ xs.drop (i * sz)) ∧ ∀ row, w.grownBy (W3 k) row := by
  have hlen := hown.1
  have hgl : g < w.heap.size := (hown.lt g rfl).2
  have hvl : vb < w.heap.size := (Array.getElem?_eq_some_iff.1 hcs).1
  have hiz : i * sz + sz ≤ n * sz := by have := Nat.mul_le_mul_right sz (show i + 1 ≤ n by omega); rw [Nat.add_mul, Nat.one_mul] at this; exact this
  have hkk : (n : Int) + 1 - (i : Int) = ((n + 1 - i : Nat) : Int) := by omega
  have hik : i + (n + 1 - i) = n + 1 := by omega
  have htl : (xs.take (i * sz)).length = i * sz := by rw [List.length_take, hlen]; omega
  have hG1 := grownCap_ge w (n + 1) cap e
  have hG2 := grownCap_le_maxLen w (n + 1) cap e (by unfold maxLen; omega)
  have hb2 : (n + 1) * bytes ≤ 140737488355328 := Nat.le_trans (Nat.mul_le_mul (show n + 1 ≤ 1000001 by omega) hby) (by omega)
  have hb3 : (n + 1 - i) * bytes ≤ 281474976710656 := Nat.le_trans (Nat.mul_le_mul (show n + 1 - i ≤ 1000001 by omega) hby) (by omega)
  have happ : ∀ ty, (Builtin.append_ #[tS, tI] ty #[.slice (some ⟨g, o, none⟩) i cap, .int .i64 ((n : Int) + 1 - (i : Int))]).run P w =
      .ok (.slice (some ⟨w.heap.size, 0, none⟩) (n + 1) (grownCap w (n + 1) cap e)) (w.drew.alloc (.cells ((xs.take (i * sz)).toArray ++ Builtin.zeroCells z.cells (n + 1 - i) ++ Builtin.zeroCells z.cells (grownCap w (n + 1) cap e - (n + 1))) e)) := fun ty => by
    have h := Lib.run_append_grow_zeros w tS tI ty e i0 z .i64 .i64 hS hI ei ez (some ⟨g, o, none⟩) i cap (xs.take (i * sz))
      (run_firstCells_some (P := P) w.drew i0.size i ⟨g, o, none⟩ i cap (xs.take (i * sz)) (by rw [ez1]; exact htl) (fun j u hj => by
        rw [addr_add]
        rw [List.getElem?_take] at hj
        split at hj
        · exact hown.cell rfl hj
        · cases hj)) (n + 1 - i) (by omega) (by omega) (by omega) (by omega) (by rw [ez2]; exact hb3) (by rw [ez2, hik]; exact growslice_fits hroom hb2)
    rw [hik] at h
    rw [hkk]
    exact h
  generalize grownCap w (n + 1) cap e = G at happ hG1 hG2
  obtain ⟨Z, hZ1, hZ2⟩ : ∃ Z : List Value, (xs.take (i * sz)).toArray ++ Builtin.zeroCells z.cells (n + 1 - i) ++ Builtin.zeroCells z.cells (G - (n + 1)) = (xs.take (i * sz) ++ Z).toArray ∧ Z.length = (G - i) * sz := by
    refine ⟨(Builtin.zeroCells z.cells (n + 1 - i)).toList ++ (Builtin.zeroCells z.cells (G - (n + 1))).toList, by simp, ?_⟩
    simp only [List.length_append, Array.length_toList, size_zeroCells, hzs, ← Nat.add_mul]
    congr 1; omega
  rw [hZ1] at happ
  clear hZ1
  have hZs : sz + (n - i) * sz ≤ Z.length := by
    rw [hZ2]
    have := Nat.mul_le_mul_right sz (show 1 + (n - i) ≤ G - i by omega)
    rw [Nat.add_mul, Nat.one_mul] at this; exact this
  have hGs : i * sz + Z.length = G * sz := by rw [hZ2, ← Nat.add_mul]; congr 1; omega
  have g1 : (w.drew.alloc (.cells (xs.take (i * sz) ++ Z).toArray e)).heap[w.heap.size]? = some (.cells (xs.take (i * sz) ++ Z).toArray e (0, 0)) := heap_alloc_new w.drew _
  have b1 : ∀ k, k < w.heap.size → (w.drew.alloc (.cells (xs.take (i * sz) ++ Z).toArray e)).heap[k]? = w.heap[k]? := fun k hk => Below.heap_alloc w.drew _ k hk
  have o1 : w.grownBy (w.drew.alloc (.cells (xs.take (i * sz) ++ Z).toArray e)) none := ⟨rfl, rfl, rfl, by simp, fun k hk _ => b1 k hk⟩
  generalize w.drew.alloc (.cells (xs.take (i * sz) ++ Z).toArray e) = W1 at happ g1 b1 o1
  have hcp1 : ∀ ty, (Builtin.copy_ #[tS, tV] ty #[.slice (some ⟨w.heap.size, i * sz, none⟩) (n + 1 - i) (G - i), .slice (some ⟨vb, 0, none⟩) 1 1]).run P W1 = .ok (goInt 1) (W1.setRow w.heap.size (lay (xs.take (i * sz) ++ Z) (i * sz) cs).toArray) := fun ty => by
    have := run_copy_q (P := P) W1 tS tV ty e i0 w.heap.size (i * sz) (n + 1 - i) (G - i) ⟨vb, 0, none⟩ 1 1 1 _ e cs hS ei g1 (by show min 1 (n + 1 - i) = 1; omega) (by rw [ez1]; omega) (fun j u hj => by rw [addr_add, Nat.zero_add]; exact cell_block (b1 vb hvl) (cells_at hcs hj)) (by simp [htl]; omega) h1
    simpa [lay] using this
  have g2 := setRow_heap W1 w.heap.size _ (lay (xs.take (i * sz) ++ Z) (i * sz) cs).toArray e _ g1
  have b2 : ∀ k, k < w.heap.size → (W1.setRow w.heap.size (lay (xs.take (i * sz) ++ Z) (i * sz) cs).toArray).heap[k]? = w.heap[k]? := fun k hk => (setRow_other W1 w.heap.size k _ (by omega)).trans (b1 k hk)
  have o2 : w.grownBy (W1.setRow w.heap.size (lay (xs.take (i * sz) ++ Z) (i * sz) cs).toArray) none := ⟨o1.os, o1.tape, o1.output, by have := o1.size; simpa using this, fun k hk _ => b2 k hk⟩
  have hl1 : (lay (xs.take (i * sz) ++ Z) (i * sz) cs).length = (xs.take (i * sz) ++ Z).length := lay_length (by simp [htl]; omega)
  generalize W1.setRow w.heap.size (lay (xs.take (i * sz) ++ Z) (i * sz) cs).toArray = W2 at hcp1 g2 b2 o2
  have hdl : (xs.drop (i * sz)).length = (n - i) * sz := by rw [List.length_drop, hlen, Nat.sub_mul]
  have htot : (xs.take (i * sz) ++ Z).length = G * sz := by rw [List.length_append, htl]; exact hGs
  have hsm : (i + 1) * sz + (n - i) * sz ≤ G * sz := by rw [← Nat.add_mul]; exact Nat.mul_le_mul_right _ (by omega)
  refine ⟨G, W1, W2, fun k => (W2.drewN k).setRow w.heap.size (lay (lay (xs.take (i * sz) ++ Z) (i * sz) cs) ((i + 1) * sz) (xs.drop (i * sz))).toArray, hG1, happ, hcp1, fun k ty => ?_, fun k => ⟨?_, fun row => ?_⟩⟩
  · have := run_copy_q (P := P) (W2.drewN k) tS tS ty e i0 w.heap.size ((i + 1) * sz) (n + 1 - (i + 1)) (G - (i + 1)) ⟨g, o + i * sz, none⟩ (n - i) (cap - i) (n - i) _ e (xs.drop (i * sz)) hS ei g2 (by show min (n - i) (n + 1 - (i + 1)) = n - i; omega) (by rw [ez1]; exact hdl)
      (fun j u hj => by
        rw [addr_add, Nat.add_assoc]
        rw [List.getElem?_drop] at hj
        exact cell_block (b2 g hgl) (hown.cell rfl hj)) (by simp only [List.size_toArray, hl1, htot, hdl]; exact hsm) (fun u hu => hx1 u (List.mem_of_mem_drop hu))
    simpa [lay] using this
  · have hl2 : (lay (lay (xs.take (i * sz) ++ Z) (i * sz) cs) ((i + 1) * sz) (xs.drop (i * sz))).length = G * sz := by
      rw [lay_length (by rw [hl1, htot, hdl]; exact hsm), hl1, htot]
    refine ⟨?_, .inr ⟨w.heap.size, 0, G, _, rfl, hB, setRow_heap (W2.drewN k) w.heap.size _ _ e _ g2, hG1, hG2, ?_, ?_⟩⟩
    · simp only [List.length_append, htl, hcl, hdl, Nat.add_mul, Nat.one_mul, Nat.sub_mul]; omega
    · simp only [List.size_toArray, hl2]; omega
    · have := lay_insert_new (i * sz) sz (n * sz) xs cs Z hlen hcl (by omega) (by rw [Nat.sub_mul] at hZs; omega)
      rw [List.drop_zero, show (n + 1) * sz = n * sz + sz by rw [Nat.add_mul, Nat.one_mul]]
      rw [show (i + 1) * sz = i * sz + sz by rw [Nat.add_mul, Nat.one_mul]]
      exact this
  · exact ⟨o2.os, o2.tape, o2.output, by have := o2.size; simpa using this, fun k' hk' _ => (setRow_other (W2.drewN k) w.heap.size k' _ (by omega)).trans (b2 k' hk')⟩

theorem ins_room (hgv : g ≠ vb) (hroom : n + 1 ≤ cap) : ∃ (W1 : Nat → World) (W2 : Nat → Nat → World),
    (∀ k ty, (Builtin.copy_ #[tS, tS] ty #[.slice (some ⟨g, o + (i + 1) * sz, none⟩) (n + 1 - (i + 1)) (cap - (i + 1)), .slice (some ⟨g, o + i * sz, none⟩) (n + 1 - i) (cap - i)]).run P (w.drewN k) = .ok (goInt ((n - i : Nat) : Int)) (W1 k)) ∧
    (∀ k k2 ty, (Builtin.copy_ #[tS, tV] ty #[.slice (some ⟨g, o + i * sz, none⟩) (n + 1 - i) (cap - i), .slice (some ⟨vb, 0, none⟩) 1 1]).run P ((W1 k).drewN k2) = .ok (goInt 1) (W2 k k2)) ∧
    ∀ k k2, Own (W2 k k2) B e sz (.slice (some ⟨g, o, none⟩) (n + 1) cap) (n + 1) (xs.take (i * sz) ++ cs ++ xs.drop (i * sz)) ∧ w.grownBy (W2 k k2) (some g) := by
  have hlen := hown.1
  rcases hown.2 with ⟨h0, _⟩ | ⟨g', o', cap', cur, hv, hbg, hg, hnc, hcm, hfit, htk⟩
  · cases h0
  injection hv with e1 _ e3
  injection e1 with e1
  injection e1 with e1 e2
  subst e1; subst e2; subst e3
  have hiz : i * sz + sz ≤ n * sz := by have := Nat.mul_le_mul_right sz (show i + 1 ≤ n by omega); rw [Nat.add_mul, Nat.one_mul] at this; exact this
  have hns : n * sz + sz ≤ cap * sz := by have := Nat.mul_le_mul_right sz hroom; rw [Nat.add_mul, Nat.one_mul] at this; exact this
  have hdl : (xs.drop (i * sz)).length = n * sz - i * sz := by rw [List.length_drop, hlen]
  have hi1 : (i + 1) * sz = i * sz + sz := by rw [Nat.add_mul, Nat.one_mul]
  have hcl1 : (lay cur.toList (o + i * sz + sz) (xs.drop (i * sz))).length = cur.size := by rw [lay_length (by rw [hdl, Array.length_toList]; omega), Array.length_toList]
  have g1 : ∀ k, ((w.drewN k).setRow g (lay cur.toList (o + i * sz + sz) (xs.drop (i * sz))).toArray).heap[g]? = some (.cells (lay cur.toList (o + i * sz + sz) (xs.drop (i * sz))).toArray e (0, 0)) := fun k => setRow_heap (w.drewN k) g _ _ e _ hg
  have b1 : ∀ k j, j ≠ g → ((w.drewN k).setRow g (lay cur.toList (o + i * sz + sz) (xs.drop (i * sz))).toArray).heap[j]? = w.heap[j]? := fun k j hj => setRow_other (w.drewN k) g j _ hj
  refine ⟨fun k => (w.drewN k).setRow g (lay cur.toList (o + i * sz + sz) (xs.drop (i * sz))).toArray,
    fun k k2 => (((w.drewN k).setRow g (lay cur.toList (o + i * sz + sz) (xs.drop (i * sz))).toArray).drewN k2).setRow g (lay (lay cur.toList (o + i * sz + sz) (xs.drop (i * sz))) (o + i * sz) cs).toArray, fun k ty => ?_, fun k k2 ty => ?_, fun k k2 => ⟨?_, ?_⟩⟩
  · have := run_copy_q (P := P) (w.drewN k) tS tS ty e i0 g (o + (i + 1) * sz) (n + 1 - (i + 1)) (cap - (i + 1)) ⟨g, o + i * sz, none⟩ (n + 1 - i) (cap - i) (n - i) cur e (xs.drop (i * sz)) hS ei hg (by show min (n + 1 - i) (n + 1 - (i + 1)) = n - i; omega) (by rw [ez1, hdl, Nat.sub_mul])
      (fun j u hj => by
        rw [addr_add, Nat.add_assoc]
        rw [List.getElem?_drop] at hj
        exact hown.cell rfl hj) (by rw [hdl, hi1]; omega) (fun u hu => hx1 u (List.mem_of_mem_drop hu))
    rw [hi1, ← Nat.add_assoc] at this ⊢
    exact this
  · have := run_copy_q (P := P) (((w.drewN k).setRow g (lay cur.toList (o + i * sz + sz) (xs.drop (i * sz))).toArray).drewN k2) tS tV ty e i0 g (o + i * sz) (n + 1 - i) (cap - i) ⟨vb, 0, none⟩ 1 1 1 _ e cs hS ei (g1 k) (by show min 1 (n + 1 - i) = 1; omega) (by rw [ez1]; omega)
      (fun j u hj => by rw [addr_add, Nat.zero_add]; exact cell_block (b1 k vb (Ne.symm hgv)) (cells_at hcs hj)) (by simp only [List.size_toArray, hcl1]; omega) h1
    simpa [lay] using this
  · have hl2 : (lay (lay cur.toList (o + i * sz + sz) (xs.drop (i * sz))) (o + i * sz) cs).length = cur.size := by rw [lay_length (by rw [hcl1]; omega), hcl1]
    refine ⟨?_, .inr ⟨g, o, cap, _, rfl, hbg, setRow_heap _ g _ _ e _ (g1 k), hroom, hcm, ?_, ?_⟩⟩
    · simp only [List.length_append, List.length_take, hlen, hcl, hdl, Nat.add_mul, Nat.one_mul]; omega
    · simp only [List.size_toArray, hl2]; exact hfit
    · rw [show (n + 1) * sz = n * sz + sz by rw [Nat.add_mul, Nat.one_mul]]
      exact lay_insert cur.toList o (i * sz) sz (n * sz) xs cs htk hlen hcl (by omega) (by rw [Array.length_toList]; omega)
  · exact ⟨rfl, rfl, rfl, by simp, fun j hj hjg => by
      have hj' : j ≠ g := fun e => hjg (by rw [e])
      exact (setRow_other _ g j _ hj').trans (b1 k j hj')⟩

omit h1 hx1 in
theorem ins_apart (hgv : g ≠ vb) (hroom : n + 1 ≤ cap) (tR : TypeId) (lb cb o2 : Nat) :
    (Extern.SlicesOverlaps.overlaps #[tS, tS] #[tR] #[.slice (some ⟨vb, 0, none⟩) 1 1, .slice (some ⟨g, o2, none⟩) lb cb]).run P w = .ok (.bool false) w := by
  rcases hown.2 with ⟨h0, _⟩ | ⟨g', o', cap', cur, hv, hbg, hg, hnc, hcm, hfit, htk⟩
  · cases h0
  injection hv with e1 _ e3
  injection e1 with e1
  injection e1 with e1 e2
  subst e1; subst e2; subst e3
  have hpos : 0 < cur.size := by have := Nat.mul_le_mul_right sz (show 1 ≤ cap by omega); omega
  exact Lib.run_overlaps_apart w tS tR e hS sz (fun w => by simp [sizeOf, typeInfo, ei, ez1]) ⟨vb, 0, none⟩ ⟨g, o2, none⟩ 1 1 lb cb (Ne.symm hgv) e e cs.length cur.size (by simp [World.shape?, hcs]) (by simp [World.shape?, hg]) (by omega)
    (by simp [World.frozen?, hcs]) (by simp [World.frozen?, hcs])
end
end Go.Proofs.YtkaolglpmajeaaaGreat

/- Plain: rows of flat structs that a call owns: they read as the list; one more in between. No condition. -/
namespace Go.Proofs.YtkaolglpmajeaaaGreat
open Go.RowKit

section
variable {D : Type} {n : Nat} {enc : D → List Value}
theorem flat_len (hn : ∀ d, (enc d).length = n) : ∀ (l : List D), (l.flatMap enc).length = l.length * n
  | [] => by simp
  | a :: l => by rw [List.flatMap_cons, List.length_append, hn, flat_len hn l, List.length_cons, Nat.add_mul]; omega
theorem flat_get (hn : ∀ d, (enc d).length = n) : ∀ {l : List D} {i j : Nat} {d : D} {u : Value}, l[i]? = some d → (enc d)[j]? = some u → (l.flatMap enc)[i * n + j]? = some u
  | [], i, j, d, u, h, _ => by simp at h
  | a :: l, 0, j, d, u, h, hu => by
    simp at h; subst h
    rw [List.flatMap_cons, Nat.zero_mul, Nat.zero_add, List.getElem?_append_left (List.getElem?_eq_some_iff.1 hu).1]; exact hu
  | a :: l, i + 1, j, d, u, h, hu => by
    rw [List.flatMap_cons, List.getElem?_append_right (by rw [hn, Nat.add_mul]; omega), hn]
    have : (i + 1) * n + j - n = i * n + j := by rw [Nat.add_mul]; omega
    rw [this]
    exact flat_get hn (by simpa using h) hu
theorem flat_take (hn : ∀ d, (enc d).length = n) (l : List D) (i : Nat) (hi : i ≤ l.length) : (l.flatMap enc).take (i * n) = (l.take i).flatMap enc := by
  conv => lhs; rw [← List.take_append_drop i l]
  rw [List.flatMap_append, List.take_append_of_le_length (by rw [flat_len hn]; simp [Nat.min_eq_left hi]), List.take_of_length_le (by rw [flat_len hn]; simp [Nat.min_eq_left hi])]
theorem flat_drop (hn : ∀ d, (enc d).length = n) (l : List D) (i : Nat) (hi : i ≤ l.length) : (l.flatMap enc).drop (i * n) = (l.drop i).flatMap enc := by
  conv => lhs; rw [← List.take_append_drop i l]
  rw [List.flatMap_append, List.drop_append_of_le_length (by rw [flat_len hn]; simp [Nat.min_eq_left hi]), List.drop_of_length_le (by rw [flat_len hn]; simp [Nat.min_eq_left hi]), List.nil_append]
theorem flat_insert (hn : ∀ d, (enc d).length = n) (l : List D) (i : Nat) (hi : i ≤ l.length) (d : D) :
    (l.flatMap enc).take (i * n) ++ enc d ++ (l.flatMap enc).drop (i * n) = (l.take i ++ d :: l.drop i).flatMap enc := by
  rw [flat_take hn l i hi, flat_drop hn l i hi, List.flatMap_append, List.flatMap_cons, List.append_assoc]
theorem flat_snoc (l : List D) (d : D) : l.flatMap enc ++ enc d = (l ++ [d]).flatMap enc := by simp
theorem Own.flat {w : World} {B : Nat} {e : TypeId} {v : Value} {l : List D} {ok : D → Prop} (hn : ∀ d, (enc d).length = n) (hl : ∀ x ∈ l, ok x) (h : Own w B e n v l.length (l.flatMap enc)) : Sl (flatL n ok enc hn) w v l := by
  obtain ⟨A, c, rfl, h1, h2⟩ := h.form
  refine ⟨A, c, rfl, h1, h2, fun i d hi => ?_⟩
  obtain ⟨g, o, c', hv, _, _⟩ := h.addr (len_pos hi)
  injection hv with hA _ hc
  subst hA; subst hc
  exact ⟨g, o, _, rfl, ⟨rfl, hl d (List.mem_of_getElem? hi)⟩, fun j u hj => h.cell rfl (flat_get hn hi hj)⟩
theorem sl_block {W : World} {b : Nat} {t : TypeId} {fr : Nat × Nat} {ok : D → Prop} (hn : ∀ d, (enc d).length = n) (l : List D) (hl : ∀ x ∈ l, ok x) (c : Nat) (h1 : l.length ≤ c) (h2 : c ≤ maxLen) (h : W.heap[b]? = some (.cells (l.flatMap enc).toArray t fr)) : Sl (flatL n ok enc hn) W (.slice (some ⟨b, 0, none⟩) l.length c) l :=
  ⟨_, c, rfl, h1, h2, fun i d hi => ⟨b, 0, _, rfl, ⟨rfl, hl d (List.mem_of_getElem? hi)⟩, fun j u hj => by
    have hg := flat_get hn hi hj
    rw [cell_of_row W b _ _ t fr h, Nat.zero_add, List.getElem?_toArray]
    exact hg⟩⟩
end
theorem sl_strs {W : World} {b : Nat} {t : TypeId} (l : List ByteArray) (hl : ∀ x ∈ l, Sm x) (hm : l.length ≤ maxLen) (h : W.heap[b]? = some (.cells (l.map Value.string).toArray t (0, 0))) : Sl strL W (.slice (some ⟨b, 0, none⟩) l.length l.length) l :=
  sl_block (t := t) (fr := (0, 0)) (enc := fun s => [.string s]) (fun _ => rfl) l hl _ (Nat.le_refl _) hm (by rw [h, show l.flatMap (fun s => [Value.string s]) = l.map Value.string from (List.map_eq_flatMap ..).symm])
theorem Fld.enc_len (d : Fld) : d.enc.length = 4 := rfl
theorem Prp.enc_len (d : Prp) : d.enc.length = 4 := rfl
theorem Tie.enc_len (d : Tie) : d.enc.length = 3 := rfl
theorem Bnd.enc_len (d : Bnd) : d.enc.length = 5 := rfl
theorem Own.flds {w : World} {B : Nat} {e : TypeId} {v : Value} {l : List Fld} (h : Own w B e 4 v l.length (l.flatMap Fld.enc)) (hl : ∀ x ∈ l, x.ok) : Sl fldL w v l := h.flat Fld.enc_len hl
theorem Own.prps {w : World} {B : Nat} {e : TypeId} {v : Value} {l : List Prp} (h : Own w B e 4 v l.length (l.flatMap Prp.enc)) (hl : ∀ x ∈ l, x.ok) : Sl prpL w v l := h.flat Prp.enc_len hl
theorem Own.ties {w : World} {B : Nat} {e : TypeId} {v : Value} {l : List Tie} (h : Own w B e 3 v l.length (l.flatMap Tie.enc)) (hl : ∀ x ∈ l, x.ok) : Sl tieL w v l := h.flat Tie.enc_len hl
theorem Own.bnds {w : World} {B : Nat} {e : TypeId} {v : Value} {l : List Bnd} (h : Own w B e 5 v l.length (l.flatMap Bnd.enc)) (hl : ∀ x ∈ l, x.ok) : Sl bndL w v l := h.flat Bnd.enc_len hl
theorem oneCell_flat {D : Type} {enc : D → List Value} (h1 : ∀ d, ∀ u ∈ enc d, u.oneCell' = true) (l : List D) : ∀ u ∈ l.flatMap enc, u.oneCell' = true := by
  intro u hu
  obtain ⟨d, _, hd⟩ := List.mem_flatMap.1 hu
  exact h1 d u hd
theorem Fld.enc_one (d : Fld) : ∀ u ∈ d.enc, u.oneCell' = true := by intro u hu; simp [Fld.enc] at hu; rcases hu with rfl | rfl | rfl | rfl <;> rfl
theorem Prp.enc_one (d : Prp) : ∀ u ∈ d.enc, u.oneCell' = true := by intro u hu; simp [Prp.enc] at hu; rcases hu with rfl | rfl | rfl | rfl <;> rfl
theorem Tie.enc_one (d : Tie) : ∀ u ∈ d.enc, u.oneCell' = true := by intro u hu; simp [Tie.enc] at hu; rcases hu with rfl | rfl | rfl <;> rfl
theorem Bnd.enc_one (d : Bnd) : ∀ u ∈ d.enc, u.oneCell' = true := by intro u hu; simp [Bnd.enc] at hu; rcases hu with rfl | rfl | rfl | rfl | rfl <;> rfl
end Go.Proofs.YtkaolglpmajeaaaGreat

/- Contracts: what value.Name, value.Check, record.prop and record.Check of the program answer, for every input that is not too long; plain functions on bytes beside them. -/
namespace Go.Proofs.YtkaolglpmajeaaaGreat
open Go.RowKit

/-- The place of the first that meets p; -1: none does. -/
def idxI {D : Type} (p : D → Bool) (l : List D) : Int := match l.findIdx? p with | some i => i | none => -1
theorem idxI_hit {D : Type} {p : D → Bool} {l : List D} {k : Nat} {d : D} (h1 : ∀ j x, j < k → l[j]? = some x → p x = false) (h2 : l[k]? = some d) (h3 : p d = true) : idxI p l = k := by
  unfold idxI
  have : l.findIdx? p = some k := by
    rw [List.findIdx?_eq_some_iff_getElem]
    obtain ⟨hk, rfl⟩ := List.getElem?_eq_some_iff.1 h2
    exact ⟨hk, h3, fun j hj => by simp [h1 j _ hj (List.getElem?_eq_getElem (by omega))]⟩
  rw [this]
theorem idxI_miss {D : Type} {p : D → Bool} {l : List D} (h1 : ∀ j x, j < l.length → l[j]? = some x → p x = false) : idxI p l = -1 := by
  unfold idxI
  have : l.findIdx? p = none := by
    rw [List.findIdx?_eq_none_iff]
    intro x hx
    obtain ⟨j, hj, rfl⟩ := List.getElem_of_mem hx
    exact h1 j _ hj (List.getElem?_eq_getElem hj)
  rw [this]
theorem idxI_any {D : Type} (p : D → Bool) (l : List D) : decide ((0 : Int) ≤ idxI p l) = l.any p := by
  unfold idxI
  cases h : l.findIdx? p with
  | none =>
    rw [List.findIdx?_eq_none_iff] at h
    have : l.any p = false := by rw [List.any_eq_false]; intro x hx; simp [h x hx]
    rw [this]; rfl
  | some i =>
    obtain ⟨hi, hp, _⟩ := List.findIdx?_eq_some_iff_getElem.1 h
    have : l.any p = true := List.any_eq_true.2 ⟨_, List.getElem_mem hi, hp⟩
    rw [this]; simp
theorem miss_step {D : Type} {p : D → Bool} {l : List D} {k : Nat} {d : D} (h1 : ∀ j x, j < k → l[j]? = some x → p x = false) (h2 : l[k]? = some d) (h3 : p d = false) : ∀ j x, j < k + 1 → l[j]? = some x → p x = false := by
  intro j x hj hx
  by_cases e : j = k
  · subst e
    have := h2.symm.trans hx
    cases this
    exact h3
  · exact h1 j x (by omega) hx

/-- What is asked of a function value: on each element, in every later world, it answers p and leaves what there was. -/
def PredB {D : Type} (P : Program) (g : Nat) (caps : Array Value) (V : World → D → Value → Prop) (p : D → Bool) (w : World) : Prop :=
  ∀ x u wx, Below w.heap.size w wx → V wx x u → Calls P g (#[u] ++ caps) wx (fun e w' => e = .returned (.bool (p x)) ∧ Below wx.heap.size wx w')

set_option maxHeartbeats 400000 in
theorem idx_byte (g : Nat) (caps : Array Value) (eg : ∀ args w, (callFunc g args).run Tryz.prog w = .ok (.enter g args) w) (p : UInt8 → Bool) (l : List UInt8) (v : Value) (w : World) (hv : Sl byteL w v l)
    (hp : PredB Tryz.prog g caps (fun _ x u => u = .int .u8 x.toNat) p w) :
    Calls Tryz.prog 88 #[v, .func (.func g) #[] caps] w fun e w' => e = .returned (.int .i64 (idxI p l)) ∧ Below w.heap.size w w' := by
  obtain ⟨A, c, rfl, hlc, hcm⟩ := hv.form
  unfold maxLen at hcm
  go_enter Tryz.func88, Tryz.ntmps88
  go_wp2_with fail
  go_loopw [8] (fun i wr => ∃ k : Nat, k ≤ l.length ∧ i = .int .i64 k ∧ Below w.heap.size w wr ∧ Hid (∀ j x, j < k → l[j]? = some x → p x = false)) (fun i _ => l.length - (intOf i).toNat)
  case atStart => exact ⟨0, Nat.zero_le _, rfl, Below.refl _ _, fun j x hj => absurd hj (Nat.not_lt_zero _)⟩
  case round =>
    obtain ⟨k, hk, rfl, hb, HA⟩ := hrel
    by_cases hlt : k < l.length
    · obtain ⟨d, hd⟩ : ∃ d, l[k]? = some d := ⟨_, List.getElem?_eq_getElem hlt⟩
      obtain ⟨b, o, rfl, hcell⟩ := byte_at (hv.below hb) hd
      have HD : Hid (l[k]? = some d) := hd
      clear hd
      have hcall := hp d _ wr hb rfl
      clear hp hv
      cases hq : p d with
      | true =>
        rw [hq] at hcall
        have HQ : Hid (p d = true) := hq
        clear hq
        go_wp2_with (go_at_fn g; refine hcall.mono ?_; rintro e w' ⟨rfl, hb2⟩)
        go_ret
        exact ⟨ret_int (idxI_hit HA.out HD.out HQ.out).symm, hb.trans (hb2.mono hb.size)⟩
      | false =>
        rw [hq] at hcall
        have HQ : Hid (p d = false) := hq
        clear hq
        go_wp2_with (go_at_fn g; refine hcall.mono ?_; rintro e w' ⟨rfl, hb2⟩)
        go_roundw
        case rel => exact ⟨k + 1, by omega, by go_num, hb.trans (hb2.mono hb.size), miss_step HA.out HD.out HQ.out⟩
        case measure => simp [intOf]; omega
    · have hkl : k = l.length := by omega
      subst hkl
      go_wp2_with fail
      go_ret
      exact ⟨ret_int (idxI_miss HA.out).symm, hb⟩

theorem has_byte (g : Nat) (caps : Array Value) (eg : ∀ args w, (callFunc g args).run Tryz.prog w = .ok (.enter g args) w) (p : UInt8 → Bool) (l : List UInt8) (v : Value) (w : World) (hv : Sl byteL w v l)
    (hp : PredB Tryz.prog g caps (fun _ x u => u = .int .u8 x.toNat) p w) :
    Calls Tryz.prog 61 #[v, .func (.func g) #[] caps] w fun e w' => e = .returned (.bool (l.any p)) ∧ Below w.heap.size w w' := by
  have h1 := idx_byte g caps eg p l v w hv hp
  have h2 := idxI_any p l
  have H2 := Lib.hid h2
  clear h2 hv hp eg
  go_enter Tryz.func61, Tryz.ntmps61
  go_wp2_with (go_at_call 88; refine h1.mono ?_; rintro e w' ⟨rfl, hb⟩)
  go_ret
  exact ⟨ret_bool H2.out, hb⟩

/-- '[]byte(s)': a new row that reads as the text's bytes. -/
theorem bytes_sl (w : World) (s : ByteArray) (hs : Sm s) : Sl byteL (Lib.bytesWorld w 5 s) (.slice (some ⟨w.heap.size, 0, none⟩) s.size (grownCap w s.size 0 5)) s.data.toList ∧ Below w.heap.size w (Lib.bytesWorld w 5 s) := by
  have e : s.data.toList.length = s.size := by rw [Array.length_toList]; rfl
  refine ⟨⟨some ⟨w.heap.size, 0, none⟩, grownCap w s.size 0 5, by rw [e], by rw [e]; exact grownCap_ge _ _ _ _, ?_, ?_⟩, ⟨rfl, rfl, rfl, by rw [Lib.bytesWorld_size]; omega, fun k hk => Lib.bytesWorld_at_old w 5 s k hk⟩⟩
  · exact grownCap_le_maxLen _ _ _ _ (by unfold Sm at hs; unfold maxLen; omega)
  · intro i d hi
    refine ⟨_, _, _, rfl, ⟨rfl, trivial⟩, fun j u hj => ?_⟩
    have hlt : i < s.size := by rw [← e]; exact (List.getElem?_eq_some_iff.1 hi).1
    match j, hj with
    | 0, hj =>
      simp at hj
      subst hj
      have := Lib.bytesWorld_cell w 5 s i hlt
      simpa [byteL, flatL, List.getD, hi] using this

/-! ### value.Name -/
def nameC (c : UInt8) : Bool := decide ((c.toNat : Int) < 97) || decide (122 < (c.toNat : Int))
def nameE (s : ByteArray) : Int := if s.toList.isEmpty then 2 else if 8 < s.size then 2 else if s.data.toList.any nameC then 2 else 0
theorem name1 (c : UInt8) (w : World) :
    Calls Tryz.prog 62 #[.int .u8 c.toNat] w fun e w' => e = .returned (.bool (nameC c)) ∧ w = w' := by
  unfold nameC
  go_enter Tryz.func62, Tryz.ntmps62
  go_wp2
  all_goals go_ret
  all_goals exact ⟨rfl, rfl⟩
theorem name_any (s : ByteArray) (w : World) (hs : Sm s) :
    Calls Tryz.prog 37 #[.string s] w fun e w' => e = .returned (errV (nameE s)) ∧ Below w.heap.size w w' := by
  have hcv := fun wx => Lib.run_convert_string_bytes (P := Tryz.prog) wx 9 130 5 s Tryz.underlying9 Tryz.underlying130 Tryz.underlying5
  obtain ⟨hsl, hb⟩ := bytes_sl w s hs
  have hcall := has_byte 62 #[] (by intro args w; kernel_rfl) nameC s.data.toList _ _ hsl (fun x u wx _ hu => by subst hu; exact (name1 x wx).mono fun e w' ⟨h1, h2⟩ => ⟨h1, h2 ▸ Below.refl _ _⟩)
  have HF : Hid (nameE s = if s.toList.isEmpty then 2 else if 8 < s.size then 2 else if s.data.toList.any nameC then 2 else 0) := rfl
  clear hsl
  have hs' : s.size ≤ 1048576 := hs
  clear hs
  by_cases h0 : s.toList.isEmpty = true
  · have HE : Hid (errV (nameE s) = .iface 65 (.int .i64 2)) := by rw [HF.out, if_pos h0]; rfl
    clear hcall
    go_enter Tryz.func37, Tryz.ntmps37
    go_wp2_with fail
    go_ret
    exact ⟨by rw [HE.out]; rfl, Below.refl _ _⟩
  · have h0' : s.toList.isEmpty = false := by simpa using h0
    by_cases h8 : 8 < s.size
    · have HE : Hid (errV (nameE s) = .iface 65 (.int .i64 2)) := by rw [HF.out, if_neg h0, if_pos h8]; rfl
      have h8' : (8 : Int) < (s.size : Int) := by omega
      clear hcall h0
      go_enter Tryz.func37, Tryz.ntmps37
      go_wp2_with fail
      go_ret
      exact ⟨by rw [HE.out]; rfl, Below.refl _ _⟩
    · have h8' : decide ((8 : Int) < (s.size : Int)) = false := by simp; omega
      have h8'' : (s.size : Int) ≤ 8 := by omega
      clear h0
      cases hq : s.data.toList.any nameC with
      | true =>
        have HE : Hid (errV (nameE s) = .iface 65 (.int .i64 2)) := by rw [HF.out, h0', if_neg (by simp), if_neg h8, hq]; rfl
        rw [hq] at hcall
        clear hq
        go_enter Tryz.func37, Tryz.ntmps37
        go_wp2_with (go_at_call 61; refine hcall.mono ?_; rintro e w' ⟨rfl, hb2⟩)
        go_ret
        exact ⟨by rw [HE.out]; rfl, hb.trans (hb2.mono hb.size)⟩
      | false =>
        have HE : Hid (errV (nameE s) = .nilIface) := by rw [HF.out, h0', if_neg (by simp), if_neg h8, hq]; rfl
        rw [hq] at hcall
        clear hq
        go_enter Tryz.func37, Tryz.ntmps37
        go_wp2_with (go_at_call 61; refine hcall.mono ?_; rintro e w' ⟨rfl, hb2⟩)
        go_ret
        exact ⟨by rw [HE.out]; rfl, hb.trans (hb2.mono hb.size)⟩
end Go.Proofs.YtkaolglpmajeaaaGreat

/- Plain laws of the model: a struct stored into an owned row; clear; what slices.DeleteFunc has kept so far. No condition. -/
namespace Go.Proofs.YtkaolglpmajeaaaGreat
open Go Go.RowKit

/-! ### Lists -/
/-- The cells from k on are these. -/
def setAll {α : Type} : List α → Nat → List α → List α
  | xs, _, [] => xs
  | xs, k, c :: cs => setAll (xs.set k c) (k + 1) cs
theorem setAll_append {α : Type} (P : List α) : ∀ (cs R : List α) (k : Nat), setAll (P ++ R) (P.length + k) cs = P ++ setAll R k cs
  | [], _, _ => rfl
  | c :: cs, R, k => by
    rw [setAll, setAll, List.set_append_right _ _ (by omega), Nat.add_sub_cancel_left, Nat.add_assoc]
    exact setAll_append P cs _ _
theorem setAll_head {α : Type} : ∀ (cs P R : List α), P.length = cs.length → setAll (P ++ R) 0 cs = cs ++ R
  | [], P, R, h => by
    have e : P = [] := List.eq_nil_of_length_eq_zero (by simpa using h)
    subst e; rfl
  | c :: cs, a :: P, R, h => by
    show setAll (c :: (P ++ R)) (0 + 1) cs = _
    have := setAll_append [c] cs (P ++ R) 0
    simp only [List.singleton_append, List.length_singleton] at this
    rw [show (0 : Nat) + 1 = 1 + 0 by omega, this, setAll_head cs P R (by simpa using h)]
    rfl
  | c :: cs, [], R, h => by simp at h
section
variable {D : Type} {n : Nat} {enc : D → List Value}
theorem flat_set (hn : ∀ d, (enc d).length = n) : ∀ (l : List D) (i : Nat) (d : D), i < l.length → setAll (l.flatMap enc) (i * n) (enc d) = (l.set i d).flatMap enc
  | a :: l, 0, d, _ => by
    rw [List.flatMap_cons, Nat.zero_mul, List.set_cons_zero, List.flatMap_cons]
    exact setAll_head _ _ _ (by rw [hn, hn])
  | a :: l, i + 1, d, h => by
    rw [List.flatMap_cons, List.set_cons_succ, List.flatMap_cons, ← flat_set hn l i d (by simpa using h), ← setAll_append]
    congr 1
    rw [hn, Nat.add_mul]; omega
end

/-! ### What is kept -/
structure Kept {D : Type} (p : D → Bool) (l dk : List D) (j i : Nat) : Prop where
  len : dk.length = l.length
  lt : i < j
  le : j ≤ l.length
  low : dk.take i = (l.take j).filter (fun x => !p x)
  high : dk.drop j = l.drop j
theorem filter_all {D : Type} {p : D → Bool} {l : List D} (h : ∀ j x, j < l.length → l[j]? = some x → p x = false) : l.filter (fun x => !p x) = l := by
  rw [List.filter_eq_self]
  intro x hx
  obtain ⟨i, hi⟩ := List.mem_iff_getElem?.1 hx
  rw [h i x (List.getElem?_eq_some_iff.1 hi).1 hi]; rfl
theorem take_snoc {D : Type} {l : List D} {j : Nat} {d : D} (h : l[j]? = some d) : l.take (j + 1) = l.take j ++ [d] := by
  rw [List.take_add_one, h]; rfl
theorem Kept.start {D : Type} {p : D → Bool} {l : List D} {k : Nat} {d : D} (h : l[k]? = some d) (hd : p d = true) (hm : ∀ j x, j < k → l[j]? = some x → p x = false) : Kept p l l (k + 1) k := by
  have hk := (List.getElem?_eq_some_iff.1 h).1
  refine ⟨rfl, by omega, by omega, ?_, rfl⟩
  rw [take_snoc h, List.filter_append]
  have e : [d].filter (fun x => !p x) = [] := by simp [hd]
  rw [e, List.append_nil, filter_all]
  intro j x hj hx
  rw [List.getElem?_take] at hx
  split at hx
  · exact hm j x (by assumption) hx
  · cases hx
theorem Kept.at {D : Type} {p : D → Bool} {l dk : List D} {j i : Nat} (h : Kept p l dk j i) (_hj : j < l.length) : dk[j]? = l[j]? := by
  have := congrArg (fun x => x[0]?) h.high
  simpa using this
theorem Kept.skip {D : Type} {p : D → Bool} {l dk : List D} {j i : Nat} {d : D} (h : Kept p l dk j i) (hd : l[j]? = some d) (hp : p d = true) : Kept p l dk (j + 1) i := by
  have hjl := (List.getElem?_eq_some_iff.1 hd).1
  refine ⟨h.len, by have := h.lt; omega, by omega, ?_, ?_⟩
  · rw [take_snoc hd, List.filter_append, h.low]; simp [hp]
  · have := congrArg (List.drop 1) h.high
    simpa using this
theorem Kept.keep {D : Type} {p : D → Bool} {l dk : List D} {j i : Nat} {d : D} (h : Kept p l dk j i) (hd : l[j]? = some d) (hp : p d = false) : Kept p l (dk.set i d) (j + 1) (i + 1) := by
  have hj := (List.getElem?_eq_some_iff.1 hd).1
  have hlt := h.lt
  have hl := h.len
  refine ⟨by rw [List.length_set]; exact hl, by omega, by omega, ?_, ?_⟩
  · rw [take_snoc hd, List.filter_append, ← h.low, take_snoc (l := dk.set i d) (j := i) (d := d) (by rw [List.getElem?_set]; simp; omega), List.take_set_of_le (Nat.le_refl _)]
    simp [hp]
  · rw [List.drop_set_of_lt (by omega)]
    have := congrArg (List.drop 1) h.high
    simpa using this
theorem Kept.done {D : Type} {p : D → Bool} {l dk : List D} {i : Nat} (h : Kept p l dk l.length i) : dk.take i = l.filter (fun x => !p x) ∧ (l.filter (fun x => !p x)).length = i := by
  have e := h.low
  rw [List.take_length] at e
  refine ⟨e, ?_⟩
  rw [← e, List.length_take]
  have := h.lt; have := h.len; omega
theorem idxI_cases {D : Type} (p : D → Bool) (l : List D) : (idxI p l = -1 ∧ l.filter (fun x => !p x) = l) ∨ ∃ (k : Nat) (d : D), idxI p l = k ∧ l[k]? = some d ∧ Kept p l l (k + 1) k := by
  unfold idxI
  cases h : l.findIdx? p with
  | none =>
    left
    refine ⟨rfl, filter_all fun j x _ hx => ?_⟩
    have := List.findIdx?_eq_none_iff.1 h x (List.mem_of_getElem? hx)
    simpa using this
  | some k =>
    right
    rw [List.findIdx?_eq_some_iff_getElem] at h
    obtain ⟨hk, hp, hm⟩ := h
    refine ⟨k, l[k], rfl, List.getElem?_eq_getElem hk, Kept.start (List.getElem?_eq_getElem hk) hp fun j x hj hx => ?_⟩
    obtain ⟨hjl, rfl⟩ := List.getElem?_eq_some_iff.1 hx
    simpa using hm j hj

/-! ### The model: clear -/
theorem grownBy_setRow {w : World} {g : Nat} {xs : Array Value} : w.grownBy (w.setRow g xs) (some g) :=
  ⟨rfl, rfl, rfl, by simp, fun k _ hk => setRow_other w g k _ (fun e => hk (by rw [e]))⟩
theorem grownBy_setCell_q (W : World) (p : Addr) (v : Value) : W.grownBy (W.setCell p v) (some p.block) :=
  ⟨rfl, rfl, rfl, by simp [World.setCell], fun k _ hk => Below.heap_setCell _ _ _ _ (fun e => hk (by rw [e]))⟩
theorem grownBy_below {w w' : World} (h : Below w.heap.size w w') (row : Option Nat) : w.grownBy w' row := ⟨h.os, h.tape, h.output, h.size, fun k hk _ => h.block k hk⟩
section
variable {P : Program}
theorem run_clear_q (w : World) (t ty e te : TypeId) (i0 : TypeInfo) (z : Value) (size : Nat) (ht : P.underlying t = some (.slice e)) (hi : P.info? e = some i0) (hz : i0.zero = some z) (hzs : z.cells.size = size) (h1 : ∀ u ∈ z.cells, u.oneCell' = true)
    (g o n c : Nat) (cur : Array Value) (hg : w.heap[g]? = some (.cells cur te (0, 0))) (hn : 0 < n) (hs : 0 < size) (hfit : o + n * size ≤ cur.size) :
    (Builtin.clear_ #[t] ty #[.slice (some ⟨g, o, none⟩) n c]).run P w = .ok (.tuple #[]) (w.setRow g (lay cur.toList o (Builtin.zeroCells z.cells n).toList).toArray) := by
  have hzl : (Builtin.zeroCells z.cells n).toList.length = n * size := by rw [Array.length_toList, size_zeroCells, hzs]
  have hone : ∀ u ∈ (Builtin.zeroCells z.cells n).toList, u.oneCell' = true := by
    intro u hu
    simp only [Builtin.zeroCells, Array.toList_map, List.mem_map] at hu
    obtain ⟨k, _, rfl⟩ := hu
    have hlt : k % z.cells.size < z.cells.size := Nat.mod_lt _ (by omega)
    rw [getElem!_pos z.cells _ hlt]
    exact h1 _ (Array.getElem_mem hlt)
  have hst := run_storeCells_at P g o te (Builtin.zeroCells z.cells n).toList 0 cur w hg (by rw [hzl]; omega) hone
  obtain ⟨m, rfl⟩ : ∃ m, n = m + 1 := ⟨n - 1, by omega⟩
  unfold lay
  simp [Builtin.clear_, run_underlying ht, zeroValue, typeInfo, hi, hz, hst]
theorem Own.clear {w : World} {B : Nat} {e : TypeId} {g o n c i : Nat} {xs : List Value} (t : TypeId) (i0 : TypeInfo) (z : Value) (size : Nat) (ht : P.underlying t = some (.slice e)) (hi : P.info? e = some i0) (hz : i0.zero = some z) (hzs : z.cells.size = size) (h1' : z.cells.all (fun u => u.oneCell') = true) (hs : 0 < size)
    (h : Own w B e size (.slice (some ⟨g, o, none⟩) n c) n xs) (hin : i < n) :
    ∃ w', (∀ ty c', (Builtin.clear_ #[t] ty #[.slice (some ⟨g, o + i * size, none⟩) (n - i) c']).run P w = .ok (.tuple #[]) w') ∧ Own w' B e size (.slice (some ⟨g, o, none⟩) i c) i (xs.take (i * size)) ∧ w.grownBy w' (some g) := by
  have h1 : ∀ u ∈ z.cells, u.oneCell' = true := fun u hu => Array.all_eq_true_iff_forall_mem.1 h1' u hu
  rcases h.2 with ⟨h0, _⟩ | ⟨g', o', cap, cur, hv, hb, hg, h2, h3, h4, h5⟩
  · cases h0
  · injection hv with e1 _ e3
    injection e1 with e1
    injection e1 with e1 e2
    subst e1; subst e2; subst e3
    have hni : (n - i) * size + i * size = n * size := by rw [← Nat.add_mul]; congr 1; omega
    have hnc : n * size ≤ c * size := Nat.mul_le_mul_right _ h2
    have hic : i * size ≤ n * size := Nat.mul_le_mul_right _ (by omega)
    have hzl : (Builtin.zeroCells z.cells (n - i)).toList.length = (n - i) * size := by rw [Array.length_toList, size_zeroCells, hzs]
    refine ⟨_, fun ty c' => run_clear_q w t ty e e i0 z size ht hi hz hzs h1 g (o + i * size) (n - i) c' cur hg (by omega) hs (by omega), ⟨by rw [List.length_take, h.1]; omega, .inr ⟨g, o, c, _, rfl, hb, setRow_heap w g cur _ e _ hg, by omega, h3, ?_, ?_⟩⟩, grownBy_setRow⟩
    · rw [List.size_toArray, lay_length (by rw [hzl, Array.length_toList]; omega), Array.length_toList]; omega
    · show ((lay cur.toList (o + i * size) _).drop o).take (i * size) = _
      unfold lay
      rw [List.append_assoc, List.drop_append_of_le_length (by rw [List.length_take, Array.length_toList]; omega), List.take_append_of_le_length (by rw [List.length_drop, List.length_take, Array.length_toList]; omega), ← h5, List.take_take, Nat.min_eq_left hic, List.drop_take, List.take_take]
      congr 1
      omega
theorem wpList_clear_q (w : World) {ops : Array Oper} {rest : List Oper} {o : Oper} {a : Act} {Q : Exit → Act → World → Prop} (hgd : o.guard = none) (s : Operand) (t : TypeId)
    (ho : o.op = .call { callee := .builtin .clear, args := #[s], argTypes := #[t] }) (v : Value) (hs : a.eval s = v) {v' : Value} {w' : World}
    (hr : (Builtin.clear_ #[t] o.type #[v]).run P w = .ok v' w') (h : wpList P ops Q rest (a.put o.dst v') w') : wpList P ops Q (o :: rest) a w := by
  refine wpList_plain hgd fun _ hK => ?_
  unfold Oper.wp execOp
  simp only [ho, resolve, invoke, builtin, Sem.run_bind, Sem.run_pure, Result.andThen_ok, List.map_toArray, List.map_cons, List.map_nil, hs, hr]
  exact hK _ _ h
end
/-- The first k of it. -/
theorem Own.first {w : World} {B : Nat} {e : TypeId} {sz g o n c : Nat} {xs : List Value} (h : Own w B e sz (.slice (some ⟨g, o, none⟩) n c) n xs) {k : Nat} (hk : k ≤ n) : Own w B e sz (.slice (some ⟨g, o, none⟩) k c) k (xs.take (k * sz)) := by
  rcases h.2 with ⟨h0, _⟩ | ⟨g', o', cap, cur, hv, hb, hg, h2, h3, h4, h5⟩
  · cases h0
  · injection hv with e1 _ e3
    injection e1 with e1
    injection e1 with e1 e2
    subst e1; subst e2; subst e3
    have hic : k * sz ≤ n * sz := Nat.mul_le_mul_right _ hk
    refine ⟨by rw [List.length_take, h.1]; omega, .inr ⟨g, o, c, cur, rfl, hb, hg, by omega, h3, h4, ?_⟩⟩
    rw [← h5, List.take_take, Nat.min_eq_left hic]
/-- A predicate that answers p in whatever world agrees below B. -/
def PredO {D : Type} (P : Program) (g : Nat) (caps : Array Value) (V : D → Value → Prop) (p : D → Bool) (B : Nat) (w : World) : Prop :=
  ∀ x u wx, Below B w wx → V x u → Calls P g (#[u] ++ caps) wx (fun e w' => e = .returned (.bool (p x)) ∧ Below wx.heap.size wx w')
/-- A predicate that answers p in whatever world agrees but for one block. -/
def PredG {D : Type} (P : Program) (g : Nat) (caps : Array Value) (V : D → Value → Prop) (p : D → Bool) (row : Option Nat) (w : World) : Prop :=
  ∀ x u wx, w.grownBy wx row → V x u → Calls P g (#[u] ++ caps) wx (fun e w' => e = .returned (.bool (p x)) ∧ Below wx.heap.size wx w')
end Go.Proofs.YtkaolglpmajeaaaGreat

/- Plain law of the model: the shift down of slices.Delete, by one element. No condition. -/
namespace Go.Proofs.YtkaolglpmajeaaaGreat
open Go Go.RowKit

theorem Own.shift {P : Program} {w : World} {B : Nat} {e : TypeId} {g o n c i sz : Nat} {xs : List Value} (t : TypeId) (i0 : TypeInfo) (ht : P.underlying t = some (.slice e)) (hi : P.info? e = some i0) (hs : i0.size = sz)
    (h : Own w B e sz (.slice (some ⟨g, o, none⟩) n c) n xs) (hx1 : ∀ u ∈ xs, u.oneCell' = true) (hin : i < n) (a : Addr) (ha : ∀ j u, (xs.drop ((i + 1) * sz))[j]? = some u → w.cell? (a.add j) = some u) :
    ∃ w', (∀ ty c', (Builtin.append_ #[t, t] ty #[.slice (some ⟨g, o, none⟩) i c, .slice (some a) (n - (i + 1)) c']).run P w = .ok (.slice (some ⟨g, o, none⟩) (n - 1) c) w') ∧
      Own w' B e sz (.slice (some ⟨g, o, none⟩) n c) n (xs.take (i * sz) ++ xs.drop ((i + 1) * sz) ++ xs.drop ((n - 1) * sz)) ∧ w.grownBy w' (some g) := by
  rcases h.2 with ⟨h0, _⟩ | ⟨g', o', cap, cur, hv, hb, hg, h2, h3, h4, h5⟩
  · cases h0
  · injection hv with e1 _ e3
    injection e1 with e1
    injection e1 with e1 e2
    subst e1; subst e2; subst e3
    have hlen := h.1
    have hnc : n * sz ≤ c * sz := Nat.mul_le_mul_right _ h2
    have hin2 : i * sz + sz ≤ n * sz := by have := Nat.mul_le_mul_right sz (show i + 1 ≤ n by omega); rw [Nat.add_mul, Nat.one_mul] at this; exact this
    have e5 : (i + 1) * sz = i * sz + sz := by rw [Nat.add_mul, Nat.one_mul]
    have e6 : (n - 1) * sz = n * sz - sz := by rw [Nat.sub_mul, Nat.one_mul]
    have e7 : (n - (i + 1)) * sz = n * sz - (i * sz + sz) := by rw [Nat.sub_mul, e5]
    have hdl : (xs.drop ((i + 1) * sz)).length = (n - (i + 1)) * sz := by rw [List.length_drop, hlen, Nat.sub_mul]
    have e8 : i + (n - (i + 1)) = n - 1 := by omega
    refine ⟨w.setRow g (cur.toList.take (o + i * sz) ++ xs.drop ((i + 1) * sz) ++ cur.toList.drop (o + i * sz + (xs.drop ((i + 1) * sz)).length)).toArray, fun ty c' => ?_, ⟨?_, .inr ⟨g, o, c, _, rfl, hb, setRow_heap w g cur _ e _ hg, h2, h3, ?_, ?_⟩⟩, grownBy_setRow⟩
    · have := run_append_at (P := P) w t ty e i0 ht hi g o i c cur hg a (n - (i + 1)) c' (xs.drop ((i + 1) * sz)) (by rw [hs, hdl]) ha (fun u hu => hx1 u (List.mem_of_mem_drop hu)) (by omega) (by rw [hs, hdl, e7]; omega)
      rw [hs, e8] at this
      exact this
    · simp only [List.length_append, List.length_take, List.length_drop, hlen, e5, e6]
      omega
    · simp only [List.size_toArray, List.length_append, List.length_take, List.length_drop, Array.length_toList, hlen, e5]
      omega
    · have hcl : cur.toList = cur.toList.take o ++ xs ++ cur.toList.drop (o + n * sz) := by
        conv => lhs; rw [← List.take_append_drop o cur.toList, ← List.take_append_drop (n * sz) (cur.toList.drop o), h5]
        rw [List.drop_drop, List.append_assoc]
      have hol : (cur.toList.take o).length = o := by simp; omega
      generalize cur.toList.take o = A at *
      generalize cur.toList.drop (o + n * sz) = C at *
      rw [hcl, hdl, e7, e5, e6]
      subst hol
      have hxs : xs = xs.take (i * sz) ++ xs.drop (i * sz) := (List.take_append_drop _ _).symm
      have t1 : (A ++ xs ++ C).take (A.length + i * sz) = A ++ xs.take (i * sz) := by
        rw [List.append_assoc, List.take_append, List.take_of_length_le (by omega), show A.length + i * sz - A.length = i * sz by omega, List.take_append_of_le_length (by omega)]
      have t2 : (A ++ xs ++ C).drop (A.length + i * sz + (n * sz - (i * sz + sz))) = xs.drop (n * sz - sz) ++ C := by
        rw [List.append_assoc, List.drop_append, List.drop_of_length_le (by omega), List.nil_append, List.drop_append_of_le_length (by omega)]
        congr 2
        omega
      rw [t1, t2]
      show ((A ++ xs.take (i * sz) ++ xs.drop (i * sz + sz) ++ (xs.drop (n * sz - sz) ++ C)).drop A.length).take (n * sz) = _
      rw [List.append_assoc, List.append_assoc, List.drop_left]
      rw [show xs.take (i * sz) ++ (xs.drop (i * sz + sz) ++ (xs.drop (n * sz - sz) ++ C)) = (xs.take (i * sz) ++ xs.drop (i * sz + sz) ++ xs.drop (n * sz - sz)) ++ C by simp]
      rw [List.take_append_of_le_length (by simp; omega), List.take_of_length_le (by simp; omega)]
end Go.Proofs.YtkaolglpmajeaaaGreat
