/- Parts: TxK, TxN. -/
import Derived.Test.YtmbeeaohidgfgaaGreatDoorMg18
/- Plain: how a round of text.Parse ends. No condition. -/
namespace Go.Proofs.YtmbeeaohidgfgaaGreatDoor
open Go Go.RowKit

theorem bs_lit {K L M : List UInt8} (h : (bs L).toList = M) : ((bs K).toList = M) = (K = L) := propext
  ⟨fun e => by
    have e2 : bs K = bs L := by rw [← bytes_eq, h]; exact e
    simpa [bs] using congrArg (·.data.toList) e2, fun e => by rw [e]; exact h⟩
theorem trim_len (x : List UInt8) : (Lib.trimSuffix x [10]).length ≤ x.length := by
  rcases suffix_cases x with h | ⟨a, rfl⟩
  · unfold Lib.trimSuffix; rw [h]; exact Nat.le_refl _
  · rw [(suffix_line a).2]; simp
theorem lineT_eq {g : Grf} {x K R : List UInt8} {sf : Bool} (h1 : Lib.hasSuffix x [10] = sf) (h2 : (Lib.cut (Lib.trimSuffix x [10]) [32]).1 = K) (h3 : (Lib.cut (Lib.trimSuffix x [10]) [32]).2.1 = R) :
    lineT g x = if sf = true then (if K = nodeW ∧ g.ties.length = 0 then (readNodL R).map fun n => ⟨g.nodes ++ [n], g.ties⟩ else if K = tieW then (readTieL R).map fun t => ⟨g.nodes, g.ties ++ [t]⟩ else none) else none := by
  subst h1; subst h2; subst h3; rfl
section
variable {b B : Nat} {w W X V : World} {g : Grf} {An At : Option Addr} {cn ct : Nat} {xs : List Value} {pre : List (List UInt8)}
theorem wrong_end {P : List (List UInt8)} {k : Nat} (hB : b + 6 ≤ B) (hk : KeepsFrom B W X) (hb : Below b w X)
    (r0 : X.heap[b]? = some (.cells #[.slice none 0 0, .slice none 0 0] 62 (0, 0))) (r1 : X.heap[b + 1]? = some (.cells #[.int .i64 0] 3 (0, 0))) (r2 : X.heap[b + 1 + 1]? = some (.cells #[.nilIface] 29 (0, 0)))
    (qb : ∃ s, X.heap[b + 1 + 1 + 1 + 1 + 1]? = some (.cells #[s] 9 (0, 0))) (hk2 : ∀ rest, runT ⟨[], []⟩ 0 (P ++ rest) = .error k) {Z : World}
    (hZ : Z = ((((X.setCell ⟨b, 0, none⟩ (.slice none 0 0)).setCell ⟨b, 1, none⟩ (.slice none 0 0)).setCell ⟨b + 1, 0, none⟩ (.int .i64 k)).setCell ⟨b + 1 + 1, 0, none⟩ (.iface 74 (.int .i64 2))).drew) :
    KeepsFrom B W Z ∧ Code.ret = Code.ret ∧ Rx b P Z ∧ Below b w Z := by
  subst hZ
  refine ⟨?_, rfl, rx_of r0 r1 r2 qb hk2, ?_⟩
  · exact KeepsFrom.trans (((((hk.trans (KeepsFrom.setCell (q := b) _ (by omega) 0 (.slice none 0 0))).trans (KeepsFrom.setCell (q := b) _ (by omega) 1 (.slice none 0 0))).trans (KeepsFrom.setCell (q := b + 1) _ (by omega) 0 (.int .i64 k))).trans (KeepsFrom.setCell (q := b + 1 + 1) _ (by omega) 0 (.iface 74 (.int .i64 2))))) (KeepsFrom.below (below_drewN (Below.refl _ _) 1))
  · exact below_drewN ((((hb.setCell (p := ⟨b, 0, none⟩) (Nat.le_refl _) _).setCell (p := ⟨b, 1, none⟩) (Nat.le_refl _) _).setCell (p := ⟨b + 1, 0, none⟩) (by show b ≤ b + 1; omega) _).setCell (p := ⟨b + 1 + 1, 0, none⟩) (by show b ≤ b + 1 + 1; omega) _) 1
theorem more_end {i : Nat} {u v : Value} (hB : b + 6 ≤ B) (hk : KeepsFrom B W X) (hb : Below b w X) (hl : Below b W X) (hq : X.heap[b + 1 + 1 + 1 + 1 + 1]? = W.heap[b + 1 + 1 + 1 + 1 + 1]?) {Z : World} (hZ : Z = (X.setCell ⟨b + 1 + 1 + 1, i, none⟩ u).setCell ⟨b + 1 + 1 + 1 + 1, 0, none⟩ v) :
    KeepsFrom B W Z ∧ LKeep b (b + 1 + 1 + 1 + 1 + 1) W Z ∧ Below b w Z := by
  subst hZ
  refine ⟨(hk.trans (KeepsFrom.setCell (q := b + 1 + 1 + 1) _ (by omega) _ _)).trans (KeepsFrom.setCell (q := b + 1 + 1 + 1 + 1) _ (by omega) _ _), ⟨?_, ?_⟩, ?_⟩
  · exact (hl.setCell (p := ⟨b + 1 + 1 + 1, i, none⟩) (by show b ≤ b + 1 + 1 + 1; omega) _).setCell (p := ⟨b + 1 + 1 + 1 + 1, 0, none⟩) (by show b ≤ b + 1 + 1 + 1 + 1; omega) _
  · exact (Below.heap_setCell _ _ _ _ (by show b + 1 + 1 + 1 + 1 + 1 ≠ b + 1 + 1 + 1 + 1; omega)).trans ((Below.heap_setCell _ _ _ _ (by show b + 1 + 1 + 1 + 1 + 1 ≠ b + 1 + 1 + 1; omega)).trans hq)
  · exact (hb.setCell (p := ⟨b + 1 + 1 + 1, i, none⟩) (by show b ≤ b + 1 + 1 + 1; omega) _).setCell (p := ⟨b + 1 + 1 + 1 + 1, 0, none⟩) (by show b ≤ b + 1 + 1 + 1 + 1; omega) _
theorem Rd.app_n (h0 : Rd b g An At cn ct xs pre W) (hb : Below W.heap.size W V) (hg : V.grownBy X (Value.slice An g.nodes.length cn).ownBlock) :
    KeepsFrom B W X ∧ Below b W X ∧ X.heap[b + 1 + 1 + 1 + 1 + 1]? = W.heap[b + 1 + 1 + 1 + 1 + 1]? := by
  have hV := h0.all (.below hb)
  have hlow := h0.low
  obtain ⟨s, hq⟩ := h0.qb
  obtain ⟨s2, hq2⟩ := hV.qb
  have hlt := (Array.getElem?_eq_some_iff.1 hq).1
  exact ⟨(KeepsFrom.below hb).trans (KeepsFrom.append hV.on hg), (hb.mono (by omega)).grown hg (by have := hb.size; omega) (fun k e => (hV.on.lt k e).1),
    (hg.block _ (Array.getElem?_eq_some_iff.1 hq2).1 (hV.on.ne_block hq2 (by decide))).trans (hb.block _ hlt)⟩
theorem Rd.app_t (h0 : Rd b g An At cn ct xs pre W) (hb : Below W.heap.size W V) (hg : V.grownBy X (Value.slice At g.ties.length ct).ownBlock) :
    KeepsFrom B W X ∧ Below b W X ∧ X.heap[b + 1 + 1 + 1 + 1 + 1]? = W.heap[b + 1 + 1 + 1 + 1 + 1]? := by
  have hV := h0.all (.below hb)
  have hlow := h0.low
  obtain ⟨s, hq⟩ := h0.qb
  obtain ⟨s2, hq2⟩ := hV.qb
  have hlt := (Array.getElem?_eq_some_iff.1 hq).1
  exact ⟨(KeepsFrom.below hb).trans (KeepsFrom.append hV.ot hg), (hb.mono (by omega)).grown hg (by have := hb.size; omega) (fun k e => (hV.ot.lt k e).1),
    (hg.block _ (Array.getElem?_eq_some_iff.1 hq2).1 (hV.ot.ne_block hq2 (by decide))).trans (hb.block _ hlt)⟩
end

theorem grfR_none (w : World) : GrfR w (.slice none 0 0) (.slice none 0 0) ⟨[], []⟩ := ⟨Own.nods (Own.nil w 0 66 3) (show OwnNods w 0 [] [] from rfl), Own.ties (Own.nil w 0 109 3) (fun x hx => by cases hx)⟩
section
variable {b D : Nat} {w Z : World}
/-- The results, behind the taking of the deferred calls. -/
theorem res_cells {vn vt n e : Value} {o : Obj} (r0 : Z.heap[b]? = some (.cells #[vn, vt] 62 (0, 0))) (r1 : Z.heap[b + 1]? = some (.cells #[n] 3 (0, 0))) (r2 : Z.heap[b + 1 + 1]? = some (.cells #[e] 29 (0, 0))) (hD : b + 6 ≤ D) :
    (Z.putObj D o).cell? ⟨b, 0, none⟩ = some vn ∧ (Z.putObj D o).cell? ⟨b, 1, none⟩ = some vt ∧ (Z.putObj D o).cell? ⟨b + 1, 0, none⟩ = some n ∧ (Z.putObj D o).cell? ⟨b + 1 + 1, 0, none⟩ = some e :=
  ⟨block_cell ((World.putObj_heap_other (by omega)).trans r0) 0, block_cell ((World.putObj_heap_other (by omega)).trans r0) 1, block_cell ((World.putObj_heap_other (by omega)).trans r1) 0, block_cell ((World.putObj_heap_other (by omega)).trans r2) 0⟩
theorem AllSame.putObj {o o' : Obj} (h : Z.heap[D]? = some o) (hc : o.isCells = false) : AllSame Z (Z.putObj D o') := fun k c T fr hk => by
  by_cases hkd : k = D
  · subst hkd; rw [h] at hk; injection hk with hk; subst hk; cases hc
  · exact (World.putObj_heap_other hkd).trans hk
theorem below_putObj {o : Obj} (hb : Below w.heap.size w Z) (hD : w.heap.size ≤ D) : Below w.heap.size w (Z.putObj D o) := hb.grown (grownBy_putObj' Z D o) hb.size (fun k e => by injection e with e; omega)
theorem GrfR.set {W : World} {g : Grf} {An At : Option Addr} {cn ct : Nat} {xs : List Value} {pre : List (List UInt8)} (h : Rd b g An At cn ct xs pre W) (hs : ∀ T', 62 ≠ T' → 3 ≠ T' → 29 ≠ T' → Same T' W Z) : GrfR Z (.slice An g.nodes.length cn) (.slice At g.ties.length ct) g :=
  ⟨Own.nods (h.on.same (hs _ (by decide) (by decide) (by decide))) (h.nn.same (hs _ (by decide) (by decide) (by decide))), Own.ties (h.ot.same (hs _ (by decide) (by decide) (by decide))) h.tt⟩
/-- Three stores into the results. -/
theorem three_set {W : World} {a0 a1 a2 a3 n e : Value} {v0 v1 : Value} (r0 : W.heap[b]? = some (.cells #[a0, a1] 62 (0, 0))) (r1 : W.heap[b + 1]? = some (.cells #[a2] 3 (0, 0))) (r2 : W.heap[b + 1 + 1]? = some (.cells #[a3] 29 (0, 0))) (hb : Below b w W) :
    let Y := (((W.setCell ⟨b, 0, none⟩ v0).setCell ⟨b, 1, none⟩ v1).setCell ⟨b + 1, 0, none⟩ n).setCell ⟨b + 1 + 1, 0, none⟩ e
    Y.heap[b]? = some (.cells #[v0, v1] 62 (0, 0)) ∧ Y.heap[b + 1]? = some (.cells #[n] 3 (0, 0)) ∧ Y.heap[b + 1 + 1]? = some (.cells #[e] 29 (0, 0)) ∧ Below b w Y ∧ (∀ k o, b + 3 ≤ k → W.heap[k]? = some o → Y.heap[k]? = some o) ∧ (∀ T', 62 ≠ T' → 3 ≠ T' → 29 ≠ T' → Same T' W Y) := by
  intro Y
  have a0' := setCell_block (setCell_block r0 0 v0) 1 v1
  have a1' := setCell_other (setCell_other r1 (q := b) (by omega) 0 v0) (q := b) (by omega) 1 v1
  have a2' := setCell_other (setCell_other r2 (q := b) (by omega) 0 v0) (q := b) (by omega) 1 v1
  have b1 := setCell_block a1' 0 n
  have b2 := setCell_other a2' (q := b + 1) (by omega) 0 n
  refine ⟨setCell_other (setCell_other a0' (by omega) _ _) (by omega) _ _, setCell_other b1 (by omega) _ _, setCell_block b2 0 _, ?_, ?_, ?_⟩
  · exact (((hb.setCell (p := ⟨b, 0, none⟩) (Nat.le_refl _) _).setCell (p := ⟨b, 1, none⟩) (Nat.le_refl _) _).setCell (p := ⟨b + 1, 0, none⟩) (by show b ≤ b + 1; omega) _).setCell (p := ⟨b + 1 + 1, 0, none⟩) (by show b ≤ b + 1 + 1; omega) _
  · intro k o hk h
    exact setCell_other (setCell_other (setCell_other (setCell_other h (by omega) _ _) (by omega) _ _) (by omega) _ _) (by omega) _ _
  · intro T' h1 h2 h3
    exact (((Same.setCell (p := ⟨b, 0, none⟩) r0 h1 v0).trans (Same.setCell (p := ⟨b, 1, none⟩) (setCell_block r0 0 v0) h1 v1)).trans (Same.setCell (p := ⟨b + 1, 0, none⟩) a1' h2 n)).trans (Same.setCell (p := ⟨b + 1 + 1, 0, none⟩) b2 h3 e)
end
theorem read_ok {l : List UInt8} {g : Grf} {L : List (List UInt8)} {n : Nat} (h : ∀ rest, runT ⟨[], []⟩ 0 (L ++ rest) = runT g n rest) (hL : L = linesL l) : readTE l = grfE g ∧ readTN l = 0 ∧ readTV l = if grfE g = 0 then g else ⟨[], []⟩ := by
  have hr : runT ⟨[], []⟩ 0 (linesL l) = .ok g := by rw [← hL]; have := h []; rw [List.append_nil] at this; exact this
  unfold readTE readTN readTV
  rw [hr]
  exact ⟨rfl, rfl, rfl⟩
theorem read_bad {l : List UInt8} {L : List (List UInt8)} {k : Nat} (h : ∀ rest, runT ⟨[], []⟩ 0 (L ++ rest) = .error k) (hL : L <+: linesL l) : readTE l = 2 ∧ readTN l = k ∧ readTV l = ⟨[], []⟩ := by
  obtain ⟨t, ht⟩ := hL
  have hr : runT ⟨[], []⟩ 0 (linesL l) = .error k := by rw [← ht]; exact h t
  unfold readTE readTN readTV
  rw [hr]
  exact ⟨rfl, rfl, rfl⟩
end Go.Proofs.YtmbeeaohidgfgaaGreatDoor
