/- Parts: Same, TxW, InsC. -/
import Derived.Test.YtmbeeaohidgfgaaGreatDoorMg07
import Derived.Test.YtmbeeaohidgfgaaGreatDoorMg02
import Derived.Test.YtmbeeaohidgfgaaGreatDoorMg06
/- Plain: blocks of one element type stay as they are where only blocks of other types are written. No condition. -/
namespace Go.Proofs.YtmbeeaohidgfgaaGreatDoor
open Go Go.RowKit

/-- All blocks of cells of type T are as they were. -/
def Same (T : TypeId) (w w' : World) : Prop := ∀ (k : Nat) c fr, w.heap[k]? = some (.cells c T fr) → w'.heap[k]? = some (.cells c T fr)
theorem Same.refl (T : TypeId) (w : World) : Same T w w := fun _ _ _ h => h
theorem Same.trans {T : TypeId} {a b c : World} (h : Same T a b) (k : Same T b c) : Same T a c := fun i x fr hx => k i x fr (h i x fr hx)
theorem Same.below {T : TypeId} {w w' : World} (hb : Below w.heap.size w w') : Same T w w' := fun k _ _ h => (hb.block k (Array.getElem?_eq_some_iff.1 h).1).trans h
theorem Same.alloc {T : TypeId} (w : World) (o : Obj) : Same T w (w.alloc o) := .below ((Below.refl _ _).alloc (Nat.le_refl _) _)
theorem Same.drewN {T : TypeId} (w : World) (n : Nat) : Same T w (w.drewN n) := fun _ _ _ h => h
theorem Same.drew {T : TypeId} (w : World) : Same T w w.drew := fun _ _ _ h => h
theorem Same.grown {T e : TypeId} {w w' : World} {B sz n : Nat} {v : Value} {xs : List Value} (ho : Own w B e sz v n xs) (hne : e ≠ T) (hg : w.grownBy w' v.ownBlock) : Same T w w' := fun k c fr h => by
  have hlt := (Array.getElem?_eq_some_iff.1 h).1
  refine (hg.block k hlt fun e' => ?_).trans h
  rcases ho.2 with ⟨rfl, _⟩ | ⟨g, o, cap, cur, rfl, _, hg2, _⟩
  · simp [Value.ownBlock] at e'
  · simp [Value.ownBlock] at e'
    subst e'
    rw [h] at hg2
    injection hg2 with hg2
    injection hg2 with _ h2 _
    exact hne h2.symm
theorem Same.setCell {T e : TypeId} {w : World} {p : Addr} {c : Array Value} {fr : Nat × Nat} (hp : w.heap[p.block]? = some (.cells c e fr)) (hne : e ≠ T) (u : Value) : Same T w (w.setCell p u) := fun k c' fr' h => by
  refine (Below.heap_setCell w p u k (fun e' => ?_)).trans h
  subst e'
  rw [h] at hp
  injection hp with hp
  injection hp with _ h2 _
  exact hne h2.symm
theorem Own.same {w w' : World} {B : Nat} {e : TypeId} {sz : Nat} {v : Value} {n : Nat} {xs : List Value} (h : Own w B e sz v n xs) (hs : Same e w w') : Own w' B e sz v n xs := by
  refine ⟨h.1, ?_⟩
  rcases h.2 with hn | ⟨g, o, cap, cur, rfl, hb, hg, rest⟩
  · exact .inl hn
  · exact .inr ⟨g, o, cap, cur, rfl, hb, hs g cur _ hg, rest⟩

theorem block_cell {w : World} {k : Nat} {c : Array Value} {T : TypeId} {fr : Nat × Nat} (h : w.heap[k]? = some (.cells c T fr)) (i : Nat) : w.cell? ⟨k, i, none⟩ = c[i]? := by
  simp [World.cell?, h]
theorem block_free {w : World} {k : Nat} {c : Array Value} {T : TypeId} (h : w.heap[k]? = some (.cells c T (0, 0))) (i : Nat) : w.frozen? ⟨k, i, none⟩ = false := by
  simp [World.frozen?, h]
theorem setCell_block {w : World} {k : Nat} {c : Array Value} {T : TypeId} {fr : Nat × Nat} (h : w.heap[k]? = some (.cells c T fr)) (i : Nat) (u : Value) : (w.setCell ⟨k, i, none⟩ u).heap[k]? = some (.cells (c.setIfInBounds i u) T fr) := by
  simp [World.setCell, Array.getElem?_modify, h]

theorem map_bs (xs : List (List UInt8)) : (xs.map bs).map (·.data.toList) = xs := by
  rw [List.map_map]
  conv => rhs; rw [← List.map_id xs]
  exact List.map_congr_left fun x _ => bs_list x
/-- Words, in a row of the call's own. -/
def wv (xs : List (List UInt8)) : List Value := xs.map fun l => Value.string (bs l)
theorem wv_at {xs : List (List UInt8)} {j : Nat} {x : ByteArray} (h : (xs.map bs)[j]? = some x) : (wv xs)[j]? = some (.string x) := by
  rw [List.getElem?_map] at h
  obtain ⟨l, hl, rfl⟩ := Option.map_eq_some_iff.1 h
  unfold wv
  rw [List.getElem?_map, hl]; rfl
/-- What Join makes of them. -/
theorem join_own (B : Nat) (w : World) (bk o c : Nat) (xs : List (List UInt8)) (sep : List UInt8) (h : Own w B 9 1 (.slice (some ⟨bk, o, none⟩) xs.length c) xs.length (wv xs)) (hl : xs.length ≤ 1000) (hc : xs.length ≤ c) (hj : (Lib.join xs sep).length ≤ 1000000) :
    Calls Tryz.prog 25 #[.slice (some ⟨bk, o, none⟩) xs.length c, .string (bs sep)] w fun e w' => e = .returned (.string (bs (Lib.join xs sep))) ∧ Below w.heap.size w w' := by
  have h1 := tx_join bk o c (xs.map bs) (bs sep) w (fun j x hj => h.cell rfl (wv_at hj)) (h.lt bk rfl).2 (by rw [List.length_map]; omega) (by rw [List.length_map]; exact hc) (by rw [map_bs, bs_list]; omega)
  rw [map_bs, bs_list, List.length_map] at h1
  exact h1

theorem cell_block {w w' : World} {b o : Nat} {v : Value} (hb : w'.heap[b]? = w.heap[b]?) (h : w.cell? ⟨b, o, none⟩ = some v) : w'.cell? ⟨b, o, none⟩ = some v := by
  unfold World.cell? at h ⊢
  dsimp only at h ⊢
  rw [hb]; exact h
theorem cells_at {w : World} {b : Nat} {cs : List Value} {e : TypeId} (h : w.heap[b]? = some (.cells cs.toArray e (0, 0))) {j : Nat} {u : Value} (hj : cs[j]? = some u) : w.cell? ⟨b, j, none⟩ = some u := by
  rw [cell_of_row w b j _ _ _ h]; simpa using hj

section
variable {P : Program} (w : World) (B : Nat) (e tS tV tI : TypeId) (i0 : TypeInfo) (z : Value) (sz bytes : Nat)
  (hS : P.underlying tS = some (.slice e)) (hI : P.underlying tI = some (.int .i64)) (ei : P.info? e = some i0) (ez : i0.zero = some z) (ez1 : i0.size = sz) (ez2 : i0.bytes = bytes) (hzs : z.cells.size = sz) (hsz : 0 < sz) (hby : bytes ≤ 4096)
  (g o n cap : Nat) (xs : List Value) (hown : Own w B e sz (.slice (some ⟨g, o, none⟩) n cap) n xs) (i : Nat) (hi : i < n) (hn : n ≤ 1000000)
  (vb : Nat) (cs : List Value) (hcl : cs.length = sz) (hcs : w.heap[vb]? = some (.cells cs.toArray e (0, 0))) (h1 : ∀ u ∈ cs, u.oneCell' = true) (hx1 : ∀ u ∈ xs, u.oneCell' = true)
include hS ei ez1 hown hi hcl hcs h1 hx1 hsz

include hI ez ez2 hzs hby hn in
theorem ins_grow (hB : B ≤ w.heap.size) (hroom : cap < n + 1) : ∃ (G : Nat) (W1 W2 : World) (W3 : Nat → World), n + 1 ≤ G ∧
    (∀ ty, (Builtin.append_ #[tS, tI] ty #[.slice (some ⟨g, o, none⟩) i cap, .int .i64 ((n : Int) + 1 - (i : Int))]).run P w = .ok (.slice (some ⟨w.heap.size, 0, none⟩) (n + 1) G) W1) ∧
    (∀ ty, (Builtin.copy_ #[tS, tV] ty #[.slice (some ⟨w.heap.size, i * sz, none⟩) (n + 1 - i) (G - i), .slice (some ⟨vb, 0, none⟩) 1 1]).run P W1 = .ok (goInt 1) W2) ∧
    (∀ k ty, (Builtin.copy_ #[tS, tS] ty #[.slice (some ⟨w.heap.size, (i + 1) * sz, none⟩) (n + 1 - (i + 1)) (G - (i + 1)), .slice (some ⟨g, o + i * sz, none⟩) (n - i) (cap - i)]).run P (W2.drewN k) = .ok (goInt ((n - i : Nat) : Int)) (W3 k)) ∧
    ∀ k, Own (W3 k) B e sz (.slice (some ⟨w.heap.size, 0, none⟩) (n + 1) G) (n + 1) (xs.take (i * sz) ++ cs ++ xs.drop (i * sz)) ∧ ∀ row, w.grownBy (W3 k) row := by
  have hlen := hown.1
  have hgl : g < w.heap.size := (hown.lt g rfl).2
  have hvl : vb < w.heap.size := (Array.getElem?_eq_some_iff.1 hcs).1
  have hiz : i * sz + sz ≤ n * sz := by have := Nat.mul_le_mul_right sz (show i + 1 ≤ n by omega); rw [Nat.add_mul, Nat.one_mul] at this; exact this
  have hkk : (n : Int) + 1 - (i : Int) = ((n + 1 - i : Nat) : Int) := by omega
  have hik : i + (n + 1 - i) = n + 1 := by omega
  have htl : (xs.take (i * sz)).length = i * sz := by rw [List.length_take, hlen]; omega
  have hG1 := grownCap_ge w (n + 1) cap e
  have hG2 := grownCap_le_maxLen w (n + 1) cap e (by unfold maxLen; omega)
  have hb2 : (n + 1) * bytes ≤ 140737488355328 := Nat.le_trans (Nat.mul_le_mul (show n + 1 ≤ 1000001 by omega) hby) (by omega)
  have hb3 : (n + 1 - i) * bytes ≤ 281474976710656 := Nat.le_trans (Nat.mul_le_mul (show n + 1 - i ≤ 1000001 by omega) hby) (by omega)
  have happ : ∀ ty, (Builtin.append_ #[tS, tI] ty #[.slice (some ⟨g, o, none⟩) i cap, .int .i64 ((n : Int) + 1 - (i : Int))]).run P w =
      .ok (.slice (some ⟨w.heap.size, 0, none⟩) (n + 1) (grownCap w (n + 1) cap e)) (w.drew.alloc (.cells ((xs.take (i * sz)).toArray ++ Builtin.zeroCells z.cells (n + 1 - i) ++ Builtin.zeroCells z.cells (grownCap w (n + 1) cap e - (n + 1))) e)) := fun ty => by
    have h := Lib.run_append_grow_zeros w tS tI ty e i0 z .i64 .i64 hS hI ei ez (some ⟨g, o, none⟩) i cap (xs.take (i * sz))
      (run_firstCells_some (P := P) w.drew i0.size i ⟨g, o, none⟩ i cap (xs.take (i * sz)) (by rw [ez1]; exact htl) (fun j u hj => by
        rw [addr_add]
        rw [List.getElem?_take] at hj
        split at hj
        · exact hown.cell rfl hj
        · cases hj)) (n + 1 - i) (by omega) (by omega) (by omega) (by omega) (by rw [ez2]; exact hb3) (by rw [ez2, hik]; exact growslice_fits hroom hb2)
    rw [hik] at h
    rw [hkk]
    exact h
  generalize grownCap w (n + 1) cap e = G at happ hG1 hG2
  obtain ⟨Z, hZ1, hZ2⟩ : ∃ Z : List Value, (xs.take (i * sz)).toArray ++ Builtin.zeroCells z.cells (n + 1 - i) ++ Builtin.zeroCells z.cells (G - (n + 1)) = (xs.take (i * sz) ++ Z).toArray ∧ Z.length = (G - i) * sz := by
    refine ⟨(Builtin.zeroCells z.cells (n + 1 - i)).toList ++ (Builtin.zeroCells z.cells (G - (n + 1))).toList, by simp, ?_⟩
    simp only [List.length_append, Array.length_toList, size_zeroCells, hzs, ← Nat.add_mul]
    congr 1; omega
  rw [hZ1] at happ
  clear hZ1
  have hZs : sz + (n - i) * sz ≤ Z.length := by
    rw [hZ2]
    have := Nat.mul_le_mul_right sz (show 1 + (n - i) ≤ G - i by omega)
    rw [Nat.add_mul, Nat.one_mul] at this; exact this
  have hGs : i * sz + Z.length = G * sz := by rw [hZ2, ← Nat.add_mul]; congr 1; omega
  have g1 : (w.drew.alloc (.cells (xs.take (i * sz) ++ Z).toArray e)).heap[w.heap.size]? = some (.cells (xs.take (i * sz) ++ Z).toArray e (0, 0)) := heap_alloc_new w.drew _
  have b1 : ∀ k, k < w.heap.size → (w.drew.alloc (.cells (xs.take (i * sz) ++ Z).toArray e)).heap[k]? = w.heap[k]? := fun k hk => Below.heap_alloc w.drew _ k hk
  have o1 : w.grownBy (w.drew.alloc (.cells (xs.take (i * sz) ++ Z).toArray e)) none := ⟨rfl, rfl, rfl, by simp, fun k hk _ => b1 k hk⟩
  generalize w.drew.alloc (.cells (xs.take (i * sz) ++ Z).toArray e) = W1 at happ g1 b1 o1
  have hcp1 : ∀ ty, (Builtin.copy_ #[tS, tV] ty #[.slice (some ⟨w.heap.size, i * sz, none⟩) (n + 1 - i) (G - i), .slice (some ⟨vb, 0, none⟩) 1 1]).run P W1 = .ok (goInt 1) (W1.setRow w.heap.size (lay (xs.take (i * sz) ++ Z) (i * sz) cs).toArray) := fun ty => by
    have := run_copy_q (P := P) W1 tS tV ty e i0 w.heap.size (i * sz) (n + 1 - i) (G - i) ⟨vb, 0, none⟩ 1 1 1 _ e cs hS ei g1 (by show min 1 (n + 1 - i) = 1; omega) (by rw [ez1]; omega) (fun j u hj => by rw [addr_add, Nat.zero_add]; exact cell_block (b1 vb hvl) (cells_at hcs hj)) (by simp [htl]; omega) h1
    simpa [lay] using this
  have g2 := setRow_heap W1 w.heap.size _ (lay (xs.take (i * sz) ++ Z) (i * sz) cs).toArray e _ g1
  have b2 : ∀ k, k < w.heap.size → (W1.setRow w.heap.size (lay (xs.take (i * sz) ++ Z) (i * sz) cs).toArray).heap[k]? = w.heap[k]? := fun k hk => (setRow_other W1 w.heap.size k _ (by omega)).trans (b1 k hk)
  have o2 : w.grownBy (W1.setRow w.heap.size (lay (xs.take (i * sz) ++ Z) (i * sz) cs).toArray) none := ⟨o1.os, o1.tape, o1.output, by have := o1.size; simpa using this, fun k hk _ => b2 k hk⟩
  have hl1 : (lay (xs.take (i * sz) ++ Z) (i * sz) cs).length = (xs.take (i * sz) ++ Z).length := lay_length (by simp [htl]; omega)
  generalize W1.setRow w.heap.size (lay (xs.take (i * sz) ++ Z) (i * sz) cs).toArray = W2 at hcp1 g2 b2 o2
  have hdl : (xs.drop (i * sz)).length = (n - i) * sz := by rw [List.length_drop, hlen, Nat.sub_mul]
  have htot : (xs.take (i * sz) ++ Z).length = G * sz := by rw [List.length_append, htl]; exact hGs
  have hsm : (i + 1) * sz + (n - i) * sz ≤ G * sz := by rw [← Nat.add_mul]; exact Nat.mul_le_mul_right _ (by omega)
  refine ⟨G, W1, W2, fun k => (W2.drewN k).setRow w.heap.size (lay (lay (xs.take (i * sz) ++ Z) (i * sz) cs) ((i + 1) * sz) (xs.drop (i * sz))).toArray, hG1, happ, hcp1, fun k ty => ?_, fun k => ⟨?_, fun row => ?_⟩⟩
  · have := run_copy_q (P := P) (W2.drewN k) tS tS ty e i0 w.heap.size ((i + 1) * sz) (n + 1 - (i + 1)) (G - (i + 1)) ⟨g, o + i * sz, none⟩ (n - i) (cap - i) (n - i) _ e (xs.drop (i * sz)) hS ei g2 (by show min (n - i) (n + 1 - (i + 1)) = n - i; omega) (by rw [ez1]; exact hdl)
      (fun j u hj => by
        rw [addr_add, Nat.add_assoc]
        rw [List.getElem?_drop] at hj
        exact cell_block (b2 g hgl) (hown.cell rfl hj)) (by simp only [List.size_toArray, hl1, htot, hdl]; exact hsm) (fun u hu => hx1 u (List.mem_of_mem_drop hu))
    simpa [lay] using this
  · have hl2 : (lay (lay (xs.take (i * sz) ++ Z) (i * sz) cs) ((i + 1) * sz) (xs.drop (i * sz))).length = G * sz := by
      rw [lay_length (by rw [hl1, htot, hdl]; exact hsm), hl1, htot]
    refine ⟨?_, .inr ⟨w.heap.size, 0, G, _, rfl, hB, setRow_heap (W2.drewN k) w.heap.size _ _ e _ g2, hG1, hG2, ?_, ?_⟩⟩
    · simp only [List.length_append, htl, hcl, hdl, Nat.add_mul, Nat.one_mul, Nat.sub_mul]; omega
    · simp only [List.size_toArray, hl2]; omega
    · have := lay_insert_new (i * sz) sz (n * sz) xs cs Z hlen hcl (by omega) (by rw [Nat.sub_mul] at hZs; omega)
      rw [List.drop_zero, show (n + 1) * sz = n * sz + sz by rw [Nat.add_mul, Nat.one_mul]]
      rw [show (i + 1) * sz = i * sz + sz by rw [Nat.add_mul, Nat.one_mul]]
      exact this
  · exact ⟨o2.os, o2.tape, o2.output, by have := o2.size; simpa using this, fun k' hk' _ => (setRow_other (W2.drewN k) w.heap.size k' _ (by omega)).trans (b2 k' hk')⟩

theorem ins_room (hgv : g ≠ vb) (hroom : n + 1 ≤ cap) : ∃ (W1 : Nat → World) (W2 : Nat → Nat → World),
    (∀ k ty, (Builtin.copy_ #[tS, tS] ty #[.slice (some ⟨g, o + (i + 1) * sz, none⟩) (n + 1 - (i + 1)) (cap - (i + 1)), .slice (some ⟨g, o + i * sz, none⟩) (n + 1 - i) (cap - i)]).run P (w.drewN k) = .ok (goInt ((n - i : Nat) : Int)) (W1 k)) ∧
    (∀ k k2 ty, (Builtin.copy_ #[tS, tV] ty #[.slice (some ⟨g, o + i * sz, none⟩) (n + 1 - i) (cap - i), .slice (some ⟨vb, 0, none⟩) 1 1]).run P ((W1 k).drewN k2) = .ok (goInt 1) (W2 k k2)) ∧
    ∀ k k2, Own (W2 k k2) B e sz (.slice (some ⟨g, o, none⟩) (n + 1) cap) (n + 1) (xs.take (i * sz) ++ cs ++ xs.drop (i * sz)) ∧ w.grownBy (W2 k k2) (some g) := by
  have hlen := hown.1
  rcases hown.2 with ⟨h0, _⟩ | ⟨g', o', cap', cur, hv, hbg, hg, hnc, hcm, hfit, htk⟩
  · cases h0
  injection hv with e1 _ e3
  injection e1 with e1
  injection e1 with e1 e2
  subst e1; subst e2; subst e3
  have hiz : i * sz + sz ≤ n * sz := by have := Nat.mul_le_mul_right sz (show i + 1 ≤ n by omega); rw [Nat.add_mul, Nat.one_mul] at this; exact this
  have hns : n * sz + sz ≤ cap * sz := by have := Nat.mul_le_mul_right sz hroom; rw [Nat.add_mul, Nat.one_mul] at this; exact this
  have hdl : (xs.drop (i * sz)).length = n * sz - i * sz := by rw [List.length_drop, hlen]
  have hi1 : (i + 1) * sz = i * sz + sz := by rw [Nat.add_mul, Nat.one_mul]
  have hcl1 : (lay cur.toList (o + i * sz + sz) (xs.drop (i * sz))).length = cur.size := by rw [lay_length (by rw [hdl, Array.length_toList]; omega), Array.length_toList]
  have g1 : ∀ k, ((w.drewN k).setRow g (lay cur.toList (o + i * sz + sz) (xs.drop (i * sz))).toArray).heap[g]? = some (.cells (lay cur.toList (o + i * sz + sz) (xs.drop (i * sz))).toArray e (0, 0)) := fun k => setRow_heap (w.drewN k) g _ _ e _ hg
  have b1 : ∀ k j, j ≠ g → ((w.drewN k).setRow g (lay cur.toList (o + i * sz + sz) (xs.drop (i * sz))).toArray).heap[j]? = w.heap[j]? := fun k j hj => setRow_other (w.drewN k) g j _ hj
  refine ⟨fun k => (w.drewN k).setRow g (lay cur.toList (o + i * sz + sz) (xs.drop (i * sz))).toArray,
    fun k k2 => (((w.drewN k).setRow g (lay cur.toList (o + i * sz + sz) (xs.drop (i * sz))).toArray).drewN k2).setRow g (lay (lay cur.toList (o + i * sz + sz) (xs.drop (i * sz))) (o + i * sz) cs).toArray, fun k ty => ?_, fun k k2 ty => ?_, fun k k2 => ⟨?_, ?_⟩⟩
  · have := run_copy_q (P := P) (w.drewN k) tS tS ty e i0 g (o + (i + 1) * sz) (n + 1 - (i + 1)) (cap - (i + 1)) ⟨g, o + i * sz, none⟩ (n + 1 - i) (cap - i) (n - i) cur e (xs.drop (i * sz)) hS ei hg (by show min (n + 1 - i) (n + 1 - (i + 1)) = n - i; omega) (by rw [ez1, hdl, Nat.sub_mul])
      (fun j u hj => by
        rw [addr_add, Nat.add_assoc]
        rw [List.getElem?_drop] at hj
        exact hown.cell rfl hj) (by rw [hdl, hi1]; omega) (fun u hu => hx1 u (List.mem_of_mem_drop hu))
    rw [hi1, ← Nat.add_assoc] at this ⊢
    exact this
  · have := run_copy_q (P := P) (((w.drewN k).setRow g (lay cur.toList (o + i * sz + sz) (xs.drop (i * sz))).toArray).drewN k2) tS tV ty e i0 g (o + i * sz) (n + 1 - i) (cap - i) ⟨vb, 0, none⟩ 1 1 1 _ e cs hS ei (g1 k) (by show min 1 (n + 1 - i) = 1; omega) (by rw [ez1]; omega)
      (fun j u hj => by rw [addr_add, Nat.zero_add]; exact cell_block (b1 k vb (Ne.symm hgv)) (cells_at hcs hj)) (by simp only [List.size_toArray, hcl1]; omega) h1
    simpa [lay] using this
  · have hl2 : (lay (lay cur.toList (o + i * sz + sz) (xs.drop (i * sz))) (o + i * sz) cs).length = cur.size := by rw [lay_length (by rw [hcl1]; omega), hcl1]
    refine ⟨?_, .inr ⟨g, o, cap, _, rfl, hbg, setRow_heap _ g _ _ e _ (g1 k), hroom, hcm, ?_, ?_⟩⟩
    · simp only [List.length_append, List.length_take, hlen, hcl, hdl, Nat.add_mul, Nat.one_mul]; omega
    · simp only [List.size_toArray, hl2]; exact hfit
    · rw [show (n + 1) * sz = n * sz + sz by rw [Nat.add_mul, Nat.one_mul]]
      exact lay_insert cur.toList o (i * sz) sz (n * sz) xs cs htk hlen hcl (by omega) (by rw [Array.length_toList]; omega)
  · exact ⟨rfl, rfl, rfl, by simp, fun j hj hjg => by
      have hj' : j ≠ g := fun e => hjg (by rw [e])
      exact (setRow_other _ g j _ hj').trans (b1 k j hj')⟩

omit h1 hx1 in
theorem ins_apart (hgv : g ≠ vb) (hroom : n + 1 ≤ cap) (tR : TypeId) (lb cb o2 : Nat) :
    (Extern.SlicesOverlaps.overlaps #[tS, tS] #[tR] #[.slice (some ⟨vb, 0, none⟩) 1 1, .slice (some ⟨g, o2, none⟩) lb cb]).run P w = .ok (.bool false) w := by
  rcases hown.2 with ⟨h0, _⟩ | ⟨g', o', cap', cur, hv, hbg, hg, hnc, hcm, hfit, htk⟩
  · cases h0
  injection hv with e1 _ e3
  injection e1 with e1
  injection e1 with e1 e2
  subst e1; subst e2; subst e3
  have hpos : 0 < cur.size := by have := Nat.mul_le_mul_right sz (show 1 ≤ cap by omega); omega
  exact Lib.run_overlaps_apart w tS tR e hS sz (fun w => by simp [sizeOf, typeInfo, ei, ez1]) ⟨vb, 0, none⟩ ⟨g, o2, none⟩ 1 1 lb cb (Ne.symm hgv) e e cs.length cur.size (by simp [World.shape?, hcs]) (by simp [World.shape?, hg]) (by omega)
    (by simp [World.frozen?, hcs]) (by simp [World.frozen?, hcs])
end
end Go.Proofs.YtmbeeaohidgfgaaGreatDoor
