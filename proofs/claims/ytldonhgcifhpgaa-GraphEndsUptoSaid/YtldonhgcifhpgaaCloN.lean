/- Contracts: slices.Clone at nodes and at ties, graph.OwnNode, graph.Own. -/
import Derived.Test.YtldonhgcifhpgaaDeltaP
namespace Go.Proofs.Ytldonhgcifhpgaa
open Go Go.RowKit



theorem clone_nods_info : (Try.prog.info? 72).map (fun i => (i.zero, i.size, i.bytes)) = some (some (.agg #[.int .i64 0, .string .empty, .slice none 0 0]), 3, 48) := by kernel_rfl
set_option maxHeartbeats 2000000 in
theorem clone_nods {w : World} {A : Option Addr} {n c : Nat} {xs : List Value} (hlen : xs.length = n * 3) (h1 : ∀ u ∈ xs, u.oneCell' = true) (hx : 0 < n → ∃ b o, A = some ⟨b, o, none⟩ ∧ ∀ j u, xs[j]? = some u → w.cell? ⟨b, o + j, none⟩ = some u) (hl : n ≤ 1048576) :
    Calls Try.prog 111 #[.slice A n c] w fun e w' => ∃ u, e = .returned u ∧ Own w' w.heap.size 72 3 u n xs ∧ Below w.heap.size w w' := by
  obtain ⟨i0, ei, ez, ez1, ez2⟩ := info_parts clone_nods_info
  have q22 : ∀ (w : World) (a : Option Addr) (n c n' c' : Nat), (binOp .eql 67 (.slice a n c) (.slice none n' c')).run Try.prog w = .ok (.bool a.isNone) w := fun w a n c n' c' => Lib.run_eql_slice_nil w _ _ a n c n' c' Try.underlying67
  cases A with
  | none =>
    have h0 : n = 0 := by
      rcases Nat.eq_zero_or_pos n with h | h
      · exact h
      · obtain ⟨_, _, hA, _⟩ := hx h; cases hA
    subst h0
    have hx0 : xs = [] := List.eq_nil_of_length_eq_zero (by rw [hlen, Nat.zero_mul])
    subst hx0
    clear hx hlen h1
    go_enter Try.func111, Try.ntmps111
    go_wp2_with fail
    go_ret
    exact ⟨_, rfl, Own.nil _ _ _ _, Below.refl _ _⟩
  | some a =>
    have hX : Hid (0 < n → ∃ b o, (some a : Option Addr) = some ⟨b, o, none⟩ ∧ ∀ j u, xs[j]? = some u → w.cell? ⟨b, o + j, none⟩ = some u) := hx
    have hL := Lib.hid hlen
    have h1H := Lib.hid h1
    clear hx hlen h1
    go_enter Try.func111, Try.ntmps111
    go_wp2_with (at_builtin; refine wpList_append_q _ rfl (.tmp 5) (.tmp 6) 67 rfl w.heap.size 72 i0 (.agg #[.int .i64 0, .string .empty, .slice none 0 0]) 3 48 Try.underlying67 ei ez ez1 ez2 rfl (by decide) (.slice (some ⟨w.heap.size, 0, none⟩) 0 0) 0 [] rfl Own.made (some a) n c xs rfl hL.out (fun hp => by
        obtain ⟨b, o, hA, hy⟩ := hX.out hp
        exact ⟨_, hA, fun j u hj => by rw [addr_add]; exact cell_below ((Below.refl _ _).alloc (Nat.le_refl _) _) (hy j u hj)⟩) h1H.out (by unfold maxLen; omega) (by omega) (by simp) ?_; intro v7 w7 hown7 hg7 hat7)
    have hb7 : Below w.heap.size w w7 := ((Below.refl _ _).alloc (Nat.le_refl _) _).grown hg7 (by simp) (fun k hk => Nat.le_of_eq (by simpa [Value.ownBlock] using hk))
    simp only [Nat.zero_add, List.nil_append] at hown7
    clear hg7 hat7
    go_ret
    exact ⟨_, rfl, hown7, hb7⟩
theorem clone_ties_info : (Try.prog.info? 74).map (fun i => (i.zero, i.size, i.bytes)) = some (some (.agg #[.string .empty, .int .i64 0, .int .i64 0]), 3, 32) := by kernel_rfl
set_option maxHeartbeats 2000000 in
theorem clone_ties {w : World} {v : Value} {l : List Tie} (hv : Sl tieL w v l) (hl : l.length ≤ 1048576) : Calls Try.prog 110 #[v] w (CloneR tieL 74 l w) := by
  obtain ⟨i0, ei, ez, ez1, ez2⟩ := info_parts clone_ties_info
  obtain ⟨A, c, rfl, _, _⟩ := hv.form
  obtain ⟨xs, hr, hx⟩ := Row.of_sl hv
  have hlen := hr.len
  have h1 := hr.oneCell one_tie
  have q22 : ∀ (w : World) (a : Option Addr) (n c n' c' : Nat), (binOp .eql 68 (.slice a n c) (.slice none n' c')).run Try.prog w = .ok (.bool a.isNone) w := fun w a n c n' c' => Lib.run_eql_slice_nil w _ _ a n c n' c' Try.underlying68
  cases A with
  | none =>
    have h0 : l = [] := by
      rcases Nat.eq_zero_or_pos l.length with h | h
      · exact List.eq_nil_of_length_eq_zero h
      · obtain ⟨_, _, hA, _⟩ := hx h; cases hA
    subst h0
    clear hv hr hx hlen h1
    go_enter Try.func110, Try.ntmps110
    go_wp2_with fail
    go_ret
    exact ⟨_, [], rfl, Own.nil _ _ _ _, rfl, Below.refl _ _⟩
  | some a =>
    have hX : Hid (0 < l.length → ∃ b o, (some a : Option Addr) = some ⟨b, o, none⟩ ∧ ∀ j u, xs[j]? = some u → w.cell? ⟨b, o + j, none⟩ = some u) := hx
    have hR := Lib.hid hr
    have hL := Lib.hid hlen
    have h1H := Lib.hid h1
    clear hv hr hx hlen h1
    go_enter Try.func110, Try.ntmps110
    go_wp2_with (at_builtin; refine wpList_append_q _ rfl (.tmp 5) (.tmp 6) 68 rfl w.heap.size 74 i0 (.agg #[.string .empty, .int .i64 0, .int .i64 0]) 3 32 Try.underlying68 ei ez ez1 ez2 rfl (by decide) (.slice (some ⟨w.heap.size, 0, none⟩) 0 0) 0 [] rfl Own.made (some a) l.length c xs rfl hL.out (fun hp => by
        obtain ⟨b, o, hA, hy⟩ := hX.out hp
        exact ⟨_, hA, fun j u hj => by rw [addr_add]; exact cell_below ((Below.refl _ _).alloc (Nat.le_refl _) _) (hy j u hj)⟩) h1H.out (by unfold maxLen; omega) (by omega) (by simp) ?_; intro v7 w7 hown7 hg7 hat7)
    have hb7 : Below w.heap.size w w7 := ((Below.refl _ _).alloc (Nat.le_refl _) _).grown hg7 (by simp) (fun k hk => Nat.le_of_eq (by simpa [Value.ownBlock] using hk))
    simp only [Nat.zero_add, List.nil_append] at hown7
    clear hg7 hat7
    go_ret
    exact ⟨_, xs, rfl, hown7, hR.out, hb7⟩
set_option maxHeartbeats 1000000 in
theorem ownNode_any (n : Nod) (v : Value) (w : World) (hv : Sl prpL w v n.props) (hl : n.props.length ≤ 1048576) :
    Calls Try.prog 101 #[.agg #[.int .i64 n.id, .string n.kind, v]] w fun e w' => ∃ u, e = .returned (.agg #[.int .i64 n.id, .string n.kind, u]) ∧ OwnP w' w.heap.size u n.props ∧ Below w.heap.size w w' := by
  have hb0 : Below w.heap.size w ((w.alloc (.cells #[.int .i64 n.id, .string n.kind, v] 72)).alloc (.cells #[.int .i64 0, .string .empty, .slice none 0 0] 72)) := ((Below.refl _ _).alloc (Nat.le_refl _) _).alloc (by simp) _
  have hcl := clone_prps (hv.below hb0) hl
  have g0 : ((w.alloc (.cells #[.int .i64 n.id, .string n.kind, v] 72)).alloc (.cells #[.int .i64 0, .string .empty, .slice none 0 0] 72)).heap[w.heap.size]? = some (.cells #[.int .i64 n.id, .string n.kind, v] 72 (0, 0)) := by
    rw [Below.heap_alloc _ _ _ (by simp)]; exact heap_alloc_new _ _
  have g1 : ((w.alloc (.cells #[.int .i64 n.id, .string n.kind, v] 72)).alloc (.cells #[.int .i64 0, .string .empty, .slice none 0 0] 72)).heap[w.heap.size + 1]? = some (.cells #[.int .i64 0, .string .empty, .slice none 0 0] 72 (0, 0)) := by
    have := heap_alloc_new (w.alloc (.cells #[.int .i64 n.id, .string n.kind, v] 72)) (.cells #[.int .i64 0, .string .empty, .slice none 0 0] 72); simpa using this
  have x0 := block_cell g0 0
  have x1 := block_cell g0 1
  have x2 := block_cell g0 2
  have hsz : ((w.alloc (.cells #[.int .i64 n.id, .string n.kind, v] 72)).alloc (.cells #[.int .i64 0, .string .empty, .slice none 0 0] 72)).heap.size = w.heap.size + 2 := by simp
  obtain ⟨A, c, rfl, _, _⟩ := hv.form
  clear hv
  go_enter Try.func101, Try.ntmps101
  go_wp2_with fail
  refine hcl.mono ?_
  clear hcl
  rintro e w2 ⟨u, xs, rfl, hown, hrow, hb2⟩
  obtain ⟨rfl, hok⟩ := Row.flat hrow
  have hown := Own.mono (B' := w.heap.size) hown (by rw [hsz]; omega)
  have HK := Lib.hid hok
  have g2 := (hb2.block _ (Array.getElem?_eq_some_iff.1 g0).1).trans g0
  have g3 := (hb2.block _ (Array.getElem?_eq_some_iff.1 g1).1).trans g1
  have y0 := block_cell g2 0
  have y1 := block_cell g2 1
  have y2 := block_cell g2 2
  have y3 := block_cell g3 0
  have y4 := block_cell g3 1
  have y5 := block_cell g3 2
  have f2 := block_free g2 2
  have f3 := block_free g3 0
  have f4 := block_free g3 1
  have f5 := block_free g3 2
  have hB2 := hb0.trans (hb2.mono hb0.size)
  have HO : Hid (∀ W, Same 48 w2 W → OwnP W w.heap.size u n.props) := fun W hs => ⟨Own.same hown hs, HK.out⟩
  obtain ⟨A2, c2, rfl, _, _⟩ := hown.form
  have hsame : ∀ W : World, W = ((((w2.setCell ⟨w.heap.size, 2, none⟩ (.slice A2 n.props.length c2)).setCell ⟨w.heap.size + 1, 0, none⟩ (.int .i64 n.id)).setCell ⟨w.heap.size + 1, 1, none⟩ (.string n.kind)).setCell ⟨w.heap.size + 1, 2, none⟩ (.slice A2 n.props.length c2)) → Same 48 w2 W := by
    rintro W rfl
    have k0 := setCell_block g2 2 (.slice A2 n.props.length c2)
    have s0 := Same.setCell (T := 48) (p := ⟨w.heap.size, 2, none⟩) g2 (by decide) (.slice A2 n.props.length c2)
    have k1 : (w2.setCell ⟨w.heap.size, 2, none⟩ (.slice A2 n.props.length c2)).heap[w.heap.size + 1]? = some (.cells #[.int .i64 0, .string .empty, .slice none 0 0] 72 (0, 0)) := by rw [Below.heap_setCell _ _ _ _ (by simp)]; exact g3
    have s1 := Same.setCell (T := 48) (p := ⟨w.heap.size + 1, 0, none⟩) k1 (by decide) (.int .i64 n.id)
    have k2 := setCell_block k1 0 (.int .i64 n.id)
    have s2 := Same.setCell (T := 48) (p := ⟨w.heap.size + 1, 1, none⟩) k2 (by decide) (.string n.kind)
    have k3 := setCell_block k2 1 (.string n.kind)
    have s3 := Same.setCell (T := 48) (p := ⟨w.heap.size + 1, 2, none⟩) k3 (by decide) (.slice A2 n.props.length c2)
    exact s0.trans (s1.trans (s2.trans s3))
  have HS := Lib.hid hsame
  have G3 := Lib.hid g3
  clear hown hrow hok g0 g1 g2 g3 x0 x1 x2 hsame
  go_wp2_with fail
  have h3 : ((((w2.setCell ⟨w.heap.size, 2, none⟩ (.slice A2 n.props.length c2)).setCell ⟨w.heap.size + 1, 0, none⟩ (.int .i64 n.id)).setCell ⟨w.heap.size + 1, 1, none⟩ (.string n.kind)).setCell ⟨w.heap.size + 1, 2, none⟩ (.slice A2 n.props.length c2)).heap[w.heap.size + 1]? = some (.cells #[.int .i64 n.id, .string n.kind, .slice A2 n.props.length c2] 72 (0, 0)) := by
    have k1 : (w2.setCell ⟨w.heap.size, 2, none⟩ (.slice A2 n.props.length c2)).heap[w.heap.size + 1]? = some (.cells #[.int .i64 0, .string .empty, .slice none 0 0] 72 (0, 0)) := by rw [Below.heap_setCell _ _ _ _ (by simp)]; exact G3.out
    exact setCell_block (setCell_block (setCell_block k1 0 (.int .i64 n.id)) 1 (.string n.kind)) 2 (.slice A2 n.props.length c2)
  have k2 := block_cell h3 0
  have k3 := block_cell h3 1
  have k4 := block_cell h3 2
  exact bodyPost_ret (v := .agg #[.int .i64 n.id, .string n.kind, .slice A2 n.props.length c2]) (by simp [results, Try.results101, go_sem, k2, k3, k4]) rfl ⟨_, rfl, HO.out _ (HS.out _ rfl), (((hB2.setCell (p := ⟨w.heap.size, 2, none⟩) (Nat.le_refl _) _).setCell (p := ⟨w.heap.size + 1, 0, none⟩) (by show w.heap.size ≤ w.heap.size + 1; omega) _).setCell (p := ⟨w.heap.size + 1, 1, none⟩) (by show w.heap.size ≤ w.heap.size + 1; omega) _).setCell (p := ⟨w.heap.size + 1, 2, none⟩) (by show w.heap.size ≤ w.heap.size + 1; omega) _⟩
end Go.Proofs.Ytldonhgcifhpgaa
