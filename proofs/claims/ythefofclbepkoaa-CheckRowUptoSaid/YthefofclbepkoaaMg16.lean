/- Parts: CloN, GNode, EmptyP, EndP. -/
import Derived.Test.YthefofclbepkoaaMg15
import Derived.Test.YthefofclbepkoaaMg14
/- Contracts: slices.Clone at nodes and at ties, graph.OwnNode, graph.Own. -/
namespace Go.Proofs.Ythefofclbepkoaa
open Go Go.RowKit



theorem clone_nods_info : (Try.prog.info? 46).map (fun i => (i.zero, i.size, i.bytes)) = some (some (.agg #[.int .i64 0, .string .empty, .slice none 0 0]), 3, 48) := by kernel_rfl
set_option maxHeartbeats 2000000 in
theorem clone_nods {w : World} {A : Option Addr} {n c : Nat} {xs : List Value} (hlen : xs.length = n * 3) (h1 : ∀ u ∈ xs, u.oneCell' = true) (hx : 0 < n → ∃ b o, A = some ⟨b, o, none⟩ ∧ ∀ j u, xs[j]? = some u → w.cell? ⟨b, o + j, none⟩ = some u) (hl : n ≤ 1048576) :
    Calls Try.prog 71 #[.slice A n c] w fun e w' => ∃ u, e = .returned u ∧ Own w' w.heap.size 46 3 u n xs ∧ Below w.heap.size w w' := by
  obtain ⟨i0, ei, ez, ez1, ez2⟩ := info_parts clone_nods_info
  have q22 : ∀ (w : World) (a : Option Addr) (n c n' c' : Nat), (binOp .eql 40 (.slice a n c) (.slice none n' c')).run Try.prog w = .ok (.bool a.isNone) w := fun w a n c n' c' => Lib.run_eql_slice_nil w _ _ a n c n' c' Try.underlying40
  cases A with
  | none =>
    have h0 : n = 0 := by
      rcases Nat.eq_zero_or_pos n with h | h
      · exact h
      · obtain ⟨_, _, hA, _⟩ := hx h; cases hA
    subst h0
    have hx0 : xs = [] := List.eq_nil_of_length_eq_zero (by rw [hlen, Nat.zero_mul])
    subst hx0
    clear hx hlen h1
    go_enter Try.func71, Try.ntmps71
    go_wp2_with fail
    go_ret
    exact ⟨_, rfl, Own.nil _ _ _ _, Below.refl _ _⟩
  | some a =>
    have hX : Hid (0 < n → ∃ b o, (some a : Option Addr) = some ⟨b, o, none⟩ ∧ ∀ j u, xs[j]? = some u → w.cell? ⟨b, o + j, none⟩ = some u) := hx
    have hL := Lib.hid hlen
    have h1H := Lib.hid h1
    clear hx hlen h1
    go_enter Try.func71, Try.ntmps71
    go_wp2_with (at_builtin; refine wpList_append_q _ rfl (.tmp 5) (.tmp 6) 40 rfl w.heap.size 46 i0 (.agg #[.int .i64 0, .string .empty, .slice none 0 0]) 3 48 Try.underlying40 ei ez ez1 ez2 rfl (by decide) (.slice (some ⟨w.heap.size, 0, none⟩) 0 0) 0 [] rfl Own.made (some a) n c xs rfl hL.out (fun hp => by
        obtain ⟨b, o, hA, hy⟩ := hX.out hp
        exact ⟨_, hA, fun j u hj => by rw [addr_add]; exact cell_below ((Below.refl _ _).alloc (Nat.le_refl _) _) (hy j u hj)⟩) h1H.out (by unfold maxLen; omega) (by omega) (by simp) ?_; intro v7 w7 hown7 hg7 hat7)
    have hb7 : Below w.heap.size w w7 := ((Below.refl _ _).alloc (Nat.le_refl _) _).grown hg7 (by simp) (fun k hk => Nat.le_of_eq (by simpa [Value.ownBlock] using hk))
    simp only [Nat.zero_add, List.nil_append] at hown7
    clear hg7 hat7
    go_ret
    exact ⟨_, rfl, hown7, hb7⟩
theorem clone_ties_info : (Try.prog.info? 50).map (fun i => (i.zero, i.size, i.bytes)) = some (some (.agg #[.string .empty, .int .i64 0, .int .i64 0]), 3, 32) := by kernel_rfl
set_option maxHeartbeats 2000000 in
theorem clone_ties {w : World} {v : Value} {l : List Tie} (hv : Sl tieL w v l) (hl : l.length ≤ 1048576) : Calls Try.prog 70 #[v] w (CloneR tieL 50 l w) := by
  obtain ⟨i0, ei, ez, ez1, ez2⟩ := info_parts clone_ties_info
  obtain ⟨A, c, rfl, _, _⟩ := hv.form
  obtain ⟨xs, hr, hx⟩ := Row.of_sl hv
  have hlen := hr.len
  have h1 := hr.oneCell one_tie
  have q22 : ∀ (w : World) (a : Option Addr) (n c n' c' : Nat), (binOp .eql 41 (.slice a n c) (.slice none n' c')).run Try.prog w = .ok (.bool a.isNone) w := fun w a n c n' c' => Lib.run_eql_slice_nil w _ _ a n c n' c' Try.underlying41
  cases A with
  | none =>
    have h0 : l = [] := by
      rcases Nat.eq_zero_or_pos l.length with h | h
      · exact List.eq_nil_of_length_eq_zero h
      · obtain ⟨_, _, hA, _⟩ := hx h; cases hA
    subst h0
    clear hv hr hx hlen h1
    go_enter Try.func70, Try.ntmps70
    go_wp2_with fail
    go_ret
    exact ⟨_, [], rfl, Own.nil _ _ _ _, rfl, Below.refl _ _⟩
  | some a =>
    have hX : Hid (0 < l.length → ∃ b o, (some a : Option Addr) = some ⟨b, o, none⟩ ∧ ∀ j u, xs[j]? = some u → w.cell? ⟨b, o + j, none⟩ = some u) := hx
    have hR := Lib.hid hr
    have hL := Lib.hid hlen
    have h1H := Lib.hid h1
    clear hv hr hx hlen h1
    go_enter Try.func70, Try.ntmps70
    go_wp2_with (at_builtin; refine wpList_append_q _ rfl (.tmp 5) (.tmp 6) 41 rfl w.heap.size 50 i0 (.agg #[.string .empty, .int .i64 0, .int .i64 0]) 3 32 Try.underlying41 ei ez ez1 ez2 rfl (by decide) (.slice (some ⟨w.heap.size, 0, none⟩) 0 0) 0 [] rfl Own.made (some a) l.length c xs rfl hL.out (fun hp => by
        obtain ⟨b, o, hA, hy⟩ := hX.out hp
        exact ⟨_, hA, fun j u hj => by rw [addr_add]; exact cell_below ((Below.refl _ _).alloc (Nat.le_refl _) _) (hy j u hj)⟩) h1H.out (by unfold maxLen; omega) (by omega) (by simp) ?_; intro v7 w7 hown7 hg7 hat7)
    have hb7 : Below w.heap.size w w7 := ((Below.refl _ _).alloc (Nat.le_refl _) _).grown hg7 (by simp) (fun k hk => Nat.le_of_eq (by simpa [Value.ownBlock] using hk))
    simp only [Nat.zero_add, List.nil_append] at hown7
    clear hg7 hat7
    go_ret
    exact ⟨_, xs, rfl, hown7, hR.out, hb7⟩
set_option maxHeartbeats 1000000 in
theorem ownNode_any (n : Nod) (v : Value) (w : World) (hv : Sl prpL w v n.props) (hl : n.props.length ≤ 1048576) :
    Calls Try.prog 61 #[.agg #[.int .i64 n.id, .string n.kind, v]] w fun e w' => ∃ u, e = .returned (.agg #[.int .i64 n.id, .string n.kind, u]) ∧ OwnP w' w.heap.size u n.props ∧ Below w.heap.size w w' := by
  have hb0 : Below w.heap.size w ((w.alloc (.cells #[.int .i64 n.id, .string n.kind, v] 46)).alloc (.cells #[.int .i64 0, .string .empty, .slice none 0 0] 46)) := ((Below.refl _ _).alloc (Nat.le_refl _) _).alloc (by simp) _
  have hcl := clone_prps (hv.below hb0) hl
  have g0 : ((w.alloc (.cells #[.int .i64 n.id, .string n.kind, v] 46)).alloc (.cells #[.int .i64 0, .string .empty, .slice none 0 0] 46)).heap[w.heap.size]? = some (.cells #[.int .i64 n.id, .string n.kind, v] 46 (0, 0)) := by
    rw [Below.heap_alloc _ _ _ (by simp)]; exact heap_alloc_new _ _
  have g1 : ((w.alloc (.cells #[.int .i64 n.id, .string n.kind, v] 46)).alloc (.cells #[.int .i64 0, .string .empty, .slice none 0 0] 46)).heap[w.heap.size + 1]? = some (.cells #[.int .i64 0, .string .empty, .slice none 0 0] 46 (0, 0)) := by
    have := heap_alloc_new (w.alloc (.cells #[.int .i64 n.id, .string n.kind, v] 46)) (.cells #[.int .i64 0, .string .empty, .slice none 0 0] 46); simpa using this
  have x0 := block_cell g0 0
  have x1 := block_cell g0 1
  have x2 := block_cell g0 2
  have hsz : ((w.alloc (.cells #[.int .i64 n.id, .string n.kind, v] 46)).alloc (.cells #[.int .i64 0, .string .empty, .slice none 0 0] 46)).heap.size = w.heap.size + 2 := by simp
  obtain ⟨A, c, rfl, _, _⟩ := hv.form
  clear hv
  go_enter Try.func61, Try.ntmps61
  go_wp2_with fail
  refine hcl.mono ?_
  clear hcl
  rintro e w2 ⟨u, xs, rfl, hown, hrow, hb2⟩
  obtain ⟨rfl, hok⟩ := Row.flat hrow
  have hown := Own.mono (B' := w.heap.size) hown (by rw [hsz]; omega)
  have HK := Lib.hid hok
  have g2 := (hb2.block _ (Array.getElem?_eq_some_iff.1 g0).1).trans g0
  have g3 := (hb2.block _ (Array.getElem?_eq_some_iff.1 g1).1).trans g1
  have y0 := block_cell g2 0
  have y1 := block_cell g2 1
  have y2 := block_cell g2 2
  have y3 := block_cell g3 0
  have y4 := block_cell g3 1
  have y5 := block_cell g3 2
  have f2 := block_free g2 2
  have f3 := block_free g3 0
  have f4 := block_free g3 1
  have f5 := block_free g3 2
  have hB2 := hb0.trans (hb2.mono hb0.size)
  have HO : Hid (∀ W, Same 26 w2 W → OwnP W w.heap.size u n.props) := fun W hs => ⟨Own.same hown hs, HK.out⟩
  obtain ⟨A2, c2, rfl, _, _⟩ := hown.form
  have hsame : ∀ W : World, W = ((((w2.setCell ⟨w.heap.size, 2, none⟩ (.slice A2 n.props.length c2)).setCell ⟨w.heap.size + 1, 0, none⟩ (.int .i64 n.id)).setCell ⟨w.heap.size + 1, 1, none⟩ (.string n.kind)).setCell ⟨w.heap.size + 1, 2, none⟩ (.slice A2 n.props.length c2)) → Same 26 w2 W := by
    rintro W rfl
    have k0 := setCell_block g2 2 (.slice A2 n.props.length c2)
    have s0 := Same.setCell (T := 26) (p := ⟨w.heap.size, 2, none⟩) g2 (by decide) (.slice A2 n.props.length c2)
    have k1 : (w2.setCell ⟨w.heap.size, 2, none⟩ (.slice A2 n.props.length c2)).heap[w.heap.size + 1]? = some (.cells #[.int .i64 0, .string .empty, .slice none 0 0] 46 (0, 0)) := by rw [Below.heap_setCell _ _ _ _ (by simp)]; exact g3
    have s1 := Same.setCell (T := 26) (p := ⟨w.heap.size + 1, 0, none⟩) k1 (by decide) (.int .i64 n.id)
    have k2 := setCell_block k1 0 (.int .i64 n.id)
    have s2 := Same.setCell (T := 26) (p := ⟨w.heap.size + 1, 1, none⟩) k2 (by decide) (.string n.kind)
    have k3 := setCell_block k2 1 (.string n.kind)
    have s3 := Same.setCell (T := 26) (p := ⟨w.heap.size + 1, 2, none⟩) k3 (by decide) (.slice A2 n.props.length c2)
    exact s0.trans (s1.trans (s2.trans s3))
  have HS := Lib.hid hsame
  have G3 := Lib.hid g3
  clear hown hrow hok g0 g1 g2 g3 x0 x1 x2 hsame
  go_wp2_with fail
  have h3 : ((((w2.setCell ⟨w.heap.size, 2, none⟩ (.slice A2 n.props.length c2)).setCell ⟨w.heap.size + 1, 0, none⟩ (.int .i64 n.id)).setCell ⟨w.heap.size + 1, 1, none⟩ (.string n.kind)).setCell ⟨w.heap.size + 1, 2, none⟩ (.slice A2 n.props.length c2)).heap[w.heap.size + 1]? = some (.cells #[.int .i64 n.id, .string n.kind, .slice A2 n.props.length c2] 46 (0, 0)) := by
    have k1 : (w2.setCell ⟨w.heap.size, 2, none⟩ (.slice A2 n.props.length c2)).heap[w.heap.size + 1]? = some (.cells #[.int .i64 0, .string .empty, .slice none 0 0] 46 (0, 0)) := by rw [Below.heap_setCell _ _ _ _ (by simp)]; exact G3.out
    exact setCell_block (setCell_block (setCell_block k1 0 (.int .i64 n.id)) 1 (.string n.kind)) 2 (.slice A2 n.props.length c2)
  have k2 := block_cell h3 0
  have k3 := block_cell h3 1
  have k4 := block_cell h3 2
  exact bodyPost_ret (v := .agg #[.int .i64 n.id, .string n.kind, .slice A2 n.props.length c2]) (by simp [results, Try.results61, go_sem, k2, k3, k4]) rfl ⟨_, rfl, HO.out _ (HS.out _ rfl), (((hB2.setCell (p := ⟨w.heap.size, 2, none⟩) (Nat.le_refl _) _).setCell (p := ⟨w.heap.size + 1, 0, none⟩) (by show w.heap.size ≤ w.heap.size + 1; omega) _).setCell (p := ⟨w.heap.size + 1, 1, none⟩) (by show w.heap.size ≤ w.heap.size + 1; omega) _).setCell (p := ⟨w.heap.size + 1, 2, none⟩) (by show w.heap.size ≤ w.heap.size + 1; omega) _⟩
end Go.Proofs.Ythefofclbepkoaa

/- Contract: graph.Node. -/
namespace Go.Proofs.Ythefofclbepkoaa
open Go Go.RowKit

def zeroN : Nod := ⟨0, .empty, []⟩
def nodeE (g : Grf) (id : Int) : Int := if grfE g = 0 then (if fhas g.nodes id then 0 else 5) else grfE g
def nodeR (g : Grf) (id : Int) : Nod := if nodeE g id = 0 then (g.nodes[fpos g.nodes id]?).getD zeroN else zeroN
theorem nod_rec2 {n : Nod} (h : nodE n = 0) : recE n.props = 0 := by
  unfold nodE at h
  split at h
  · omega
  · split at h
    · exact h
    · rename_i h2; exact absurd h h2
/-- A node and an error. -/
def RetN (n : Nod) (err : Int) (w : World) (e : Ending) (w' : World) : Prop := ∃ u, e = .returned (.tuple #[.agg #[.int .i64 n.id, .string n.kind, u], errV err]) ∧ Sl prpL w' u n.props ∧ Below w.heap.size w w'
end Go.Proofs.Ythefofclbepkoaa

/- Plain: a graph of which the nodes are gone one by one. -/
namespace Go.Proofs.Ythefofclbepkoaa

theorem nodsE_weak {p : Option Nod} {l : List Nod} (h : nodsE p l = 0) : nodsE none l = 0 := by
  cases l with
  | nil => rfl
  | cons n r =>
    obtain ⟨h1, h2, h3, _⟩ := nodsE_step h
    have e : nodsE none (n :: r) = if idB n.id = false then 1 else if nodE n = 0 then nodsE (some n) r else nodE n := rfl
    rw [e, if_neg (by simp [h1]), if_pos h2, h3]
theorem nodsE_drop : ∀ (k : Nat) {p : Option Nod} {l : List Nod}, nodsE p l = 0 → nodsE none (l.drop k) = 0
  | 0, _, _, h => nodsE_weak h
  | k + 1, _, [], _ => rfl
  | k + 1, _, n :: r, h => nodsE_drop k (nodsE_step h).2.2.1
theorem tiesE_filter (f : Tie → Bool) : ∀ {l : List Tie} {p q : Option Tie}, (∀ a, p = some a → q = some a ∨ ∃ b, q = some b ∧ tieO a b < 0) → (p = none → True) → tiesE q l = 0 → tiesE p (l.filter f) = 0
  | [], p, q, _, _, _ => by cases p <;> rfl
  | t :: r, p, q, hp, _, h => by
    obtain ⟨s1, s2, s3⟩ := tiesE_step h
    have hlt : ∀ a, p = some a → tieO a t < 0 := fun a ha => by
      rcases hp a ha with hq | ⟨b, hq, hab⟩
      · have := s3 a hq; unfold tieLt at this; exact of_decide_eq_true this
      · have := s3 b hq; unfold tieLt at this; exact tieO_trans hab (of_decide_eq_true this)
    rw [List.filter_cons]
    by_cases hf : f t = true
    · rw [if_pos hf]
      have e : tiesE p (t :: r.filter f) = if tieE t = 0 then (if (match p with | some q => decide (0 ≤ tieO q t) | none => false) then 7 else tiesE (some t) (r.filter f)) else tieE t := by cases p <;> rfl
      rw [e, if_pos s1]
      have ih := tiesE_filter f (l := r) (p := some t) (q := some t) (fun a ha => .inl ha) (fun _ => trivial) s2
      cases p with
      | none => simpa using ih
      | some a =>
        have h1 := hlt a rfl
        have h2 : decide (0 ≤ tieO a t) = false := decide_eq_false (by omega)
        show (if decide (0 ≤ tieO a t) = true then (7 : Int) else tiesE (some t) (r.filter f)) = 0
        rw [h2]; simpa using ih
    · rw [if_neg hf]
      exact tiesE_filter f (l := r) (p := p) (q := some t) (fun a ha => .inr ⟨t, rfl, hlt a ha⟩) (fun _ => trivial) s2
def cutG (g : Grf) (k : Nat) : Grf := ⟨g.nodes.drop k, g.ties.filter fun t => !((g.nodes.take k).any fun n => touch n.id t)⟩
theorem cut_zero (g : Grf) : cutG g 0 = g := by
  unfold cutG
  have : g.ties.filter (fun t => !((g.nodes.take 0).any fun n => touch n.id t)) = g.ties := List.filter_eq_self.2 (fun a _ => by simp)
  rw [this, List.drop_zero]
theorem cut_right {g : Grf} (h : grfE g = 0) (k : Nat) : grfE (cutG g k) = 0 := by
  obtain ⟨h1, h2⟩ := grf_parts h
  obtain ⟨l1, l2, _, _⟩ := grf_ok h
  have e1 : nodsE none (cutG g k).nodes = 0 := nodsE_drop k h1
  have e2 : tiesE none (cutG g k).ties = 0 := tiesE_filter _ (q := none) (fun a ha => by cases ha) (fun _ => trivial) h2
  unfold grfE
  have l3 : (cutG g k).nodes.length ≤ 60 := by unfold cutG; simp; omega
  have l4 : (cutG g k).ties.length ≤ 120 := Nat.le_trans (List.length_filter_le _ _) l2
  rw [if_neg (by omega), e1, if_pos rfl, e2]
theorem fpos_head {l : List Nod} {n : Nod} {r : List Nod} (h : l = n :: r) : fpos l n.id = 0 ∧ fhas l n.id = true := by
  subst h
  have h0 : nodC n.id n = 0 := by unfold nodC; exact cmpI_zero.2 rfl
  have h1 : fpos (n :: r) n.id = 0 := by
    unfold fpos lowI
    rw [List.findIdx_cons]
    simp [h0]
  refine ⟨h1, ?_⟩
  unfold fhas
  rw [h1]
  unfold eqAt
  simp [h0]
theorem cut_step {g : Grf} {k : Nat} {n : Nod} (hd : g.nodes[k]? = some n) : goneG (cutG g k) n.id = cutG g (k + 1) ∧ fhas (cutG g k).nodes n.id = true := by
  have hc : (cutG g k).nodes = n :: g.nodes.drop (k + 1) := drop_cons hd
  obtain ⟨h1, h2⟩ := fpos_head hc
  refine ⟨?_, h2⟩
  unfold goneG
  rw [h1, hc]
  unfold cutG
  simp only [List.take_zero, List.nil_append, List.drop_succ_cons, List.drop_zero, List.filter_filter]
  rw [take_snoc hd]
  congr 1
  apply List.filter_congr
  intro t _
  rw [List.any_append]
  simp only [List.any_cons, List.any_nil, Bool.or_false, Bool.not_or]
  exact Bool.and_comm _ _
theorem beq_swap (a b : Int) : (a == b) = (b == a) := by
  rcases Int.decEq a b with h | h
  · rw [beq_eq_false_iff_ne.2 h, beq_eq_false_iff_ne.2 (Ne.symm h)]
  · subst h; rfl
def looseN (g : Grf) : Nat := (g.ties.filter fun t => !(fhas g.nodes t.src) && !(fhas g.nodes t.dst)).length
theorem chain_lt2 {l : List Nod} (hc : chain nodLt l = true) : ∀ {i j : Nat} {a b : Nod}, i < j → l[i]? = some a → l[j]? = some b → a.id < b.id := by
  intro i j
  induction j with
  | zero => intro a b h; omega
  | succ j ih =>
    intro a b h ha hb
    have hj : j < l.length := by have := (List.getElem?_eq_some_iff.1 hb).1; omega
    have h1 := chain_iff.1 hc j l[j] b (List.getElem?_eq_getElem hj) hb
    simp only [nodLt, decide_eq_true_eq] at h1
    rcases Nat.lt_or_ge i j with h2 | h2
    · have := ih (b := l[j]) h2 ha (List.getElem?_eq_getElem hj); omega
    · obtain rfl : i = j := by omega
      have := ha.symm.trans (List.getElem?_eq_getElem hj)
      cases this
      exact h1
theorem fhas_any {l : List Nod} (hc : chain nodLt l = true) (id : Int) : fhas l id = l.any fun n => n.id == id := by
  cases hq : fhas l id with
  | true =>
    obtain ⟨n, hn⟩ := fhas_some' hq
    have h0 : nodC id n = 0 := by
      unfold fhas eqAt at hq
      rw [hn] at hq
      simpa using hq
    have := (cmpI_zero (a := n.id) (b := id)).1 h0
    exact (List.any_eq_true.2 ⟨n, List.mem_of_getElem? hn, by simp [this]⟩).symm
  | false =>
    symm
    rw [List.any_eq_false]
    intro n hn
    obtain ⟨i, hi⟩ := List.mem_iff_getElem?.1 hn
    simp only [beq_iff_eq]
    intro he
    have h0 : nodC id n = 0 := cmpI_zero.2 he
    rcases Nat.lt_trichotomy i (fpos l id) with h | h | h
    · have := low_lt (c := nodC id) h hi; omega
    · subst h
      unfold fhas eqAt at hq
      rw [hi] at hq
      simp [h0] at hq
    · have hlt : fpos l id < l.length := by have := (List.getElem?_eq_some_iff.1 hi).1; omega
      obtain ⟨m, hm⟩ : ∃ m, l[fpos l id]? = some m := ⟨_, List.getElem?_eq_getElem hlt⟩
      have h1 := low_ge (c := nodC id) hc (nodC_mono id) (Nat.le_refl _) hm
      have h2 : ¬ nodC id m = 0 := by
        unfold fhas eqAt at hq
        rw [hm] at hq
        simpa using hq
      have h3 := chain_lt2 hc h hm hi
      unfold nodC at h0 h1 h2
      have a1 := (cmpI_zero (a := n.id) (b := id)).1 h0
      have a2 := @cmpI_neg m.id id
      have a3 := @cmpI_zero m.id id
      have a4 : ¬ m.id < id := fun h => by have := a2.2 h; omega
      have a5 : ¬ m.id = id := fun h => h2 (a3.2 h)
      omega
theorem cut_all {g : Grf} (h : grfE g = 0) : (cutG g g.nodes.length).nodes = [] ∧ (cutG g g.nodes.length).ties.length = looseN g := by
  obtain ⟨_, _, hc, _⟩ := grf_ok h
  refine ⟨by unfold cutG; simp, ?_⟩
  unfold cutG looseN
  rw [List.take_length]
  congr 1
  apply List.filter_congr
  intro t _
  rw [fhas_any hc, fhas_any hc]
  unfold touch
  simp only [← Bool.not_or]
  congr 1
  induction g.nodes with
  | nil => rfl
  | cons n r ih =>
    simp only [List.any_cons, ih]
    have e1 : (t.src == n.id) = (n.id == t.src) := beq_swap _ _
    have e2 : (t.dst == n.id) = (n.id == t.dst) := beq_swap _ _
    rw [e1, e2]
    cases (n.id == t.src) <;> cases (n.id == t.dst) <;> simp
end Go.Proofs.Ythefofclbepkoaa

/- Plain: ends of ties of a graph; as many go out as come in, but for those that lead nowhere. No condition. -/
namespace Go.Proofs.Ythefofclbepkoaa

def endT (back : Bool) (bond : ByteArray) (id : Int) (t : Tie) : Bool := decide (t.bond = bond) && (if back then t.dst == id else t.src == id)
def endX (back : Bool) (t : Tie) : Int := if back then t.src else t.dst
/-- Ends of ties of a bond at a node, in the order of the ties. -/
def endsL (ts : List Tie) (id : Int) (bond : ByteArray) (back : Bool) : List Int := (ts.filter (endT back bond id)).map (endX back)
theorem endsL_mem {ts : List Tie} {id : Int} {bond : ByteArray} {back : Bool} {x : Int} (h : x ∈ endsL ts id bond back) : id ∈ endsL ts x bond (!back) := by
  unfold endsL at h ⊢
  obtain ⟨t, ht, rfl⟩ := List.mem_map.1 h
  obtain ⟨h1, h2⟩ := List.mem_filter.1 ht
  unfold endT at h2
  simp only [Bool.and_eq_true, decide_eq_true_eq] at h2
  obtain ⟨h3, h4⟩ := h2
  refine List.mem_map.2 ⟨t, List.mem_filter.2 ⟨h1, ?_⟩, ?_⟩
  · unfold endT endX
    cases back <;> simp [h3]
  · unfold endX
    cases back <;> simpa using h4
def idsN (l : List Nod) : List Int := l.map (·.id)
theorem ids_nodup {l : List Nod} (hc : chain nodLt l = true) {k : Nat} {n : Nod} (hn : l[k]? = some n) : n.id ∉ (idsN l).take k := by
  intro h
  obtain ⟨j, hj⟩ := List.mem_iff_getElem?.1 h
  rw [List.getElem?_take] at hj
  split at hj
  · unfold idsN at hj
    rw [List.getElem?_map] at hj
    cases hm : l[j]? with
    | none => rw [hm] at hj; cases hj
    | some m =>
      rw [hm] at hj
      have : m.id = n.id := by simpa using hj
      have := chain_lt2 hc (by assumption : j < k) hm hn
      omega
  · cases hj
theorem ids_has {l : List Nod} (hc : chain nodLt l = true) (id : Int) : fhas l id = decide (id ∈ idsN l) := by
  rw [fhas_any hc, Bool.eq_iff_iff, List.any_eq_true, decide_eq_true_eq]
  unfold idsN
  constructor
  · rintro ⟨n, h1, h2⟩
    exact List.mem_map.2 ⟨n, h1, by simpa using h2⟩
  · intro h
    obtain ⟨n, h1, h2⟩ := List.mem_map.1 h
    exact ⟨n, h1, by simpa using h2⟩
/-- Ties of a bond of which the one end is among some, the other as is asked. -/
def cntT (ts : List Tie) (bond : ByteArray) (back : Bool) (I : List Int) (f : Int → Bool) : Nat :=
  ts.countP fun t => decide (t.bond = bond) && (if back then I.contains t.dst else I.contains t.src) && f (endX back t)
theorem cntT_nil (ts : List Tie) (bond : ByteArray) (back : Bool) (f : Int → Bool) : cntT ts bond back [] f = 0 := by
  unfold cntT
  rw [List.countP_eq_zero]
  intro t _
  cases back <;> simp
theorem countP_or {α : Type} (p q r : α → Bool) (h1 : ∀ a, r a = (p a || q a)) (h2 : ∀ a, ¬ (p a = true ∧ q a = true)) : ∀ l : List α, l.countP r = l.countP p + l.countP q
  | [] => rfl
  | a :: l => by
    rw [List.countP_cons, List.countP_cons, List.countP_cons, countP_or p q r h1 h2 l, h1 a]
    have := h2 a
    cases hp : p a <;> cases hq : q a <;> simp_all <;> omega
theorem cntT_step (ts : List Tie) (bond : ByteArray) (back : Bool) (I : List Int) (id : Int) (f : Int → Bool) (hI : id ∉ I) :
    cntT ts bond back (I ++ [id]) f = cntT ts bond back I f + (endsL ts id bond back).countP f := by
  unfold cntT endsL
  rw [List.countP_map, List.countP_filter]
  refine countP_or _ _ _ (fun t => ?_) (fun t => ?_) ts
  · unfold endT
    cases back <;> simp only [List.contains_append, List.contains_cons, List.contains_nil, Bool.or_false, Function.comp_apply, if_true, if_false, Bool.false_eq_true] <;>
      cases decide (t.bond = bond) <;> simp [Bool.and_or_distrib_right, Bool.and_comm]
  · unfold endT
    cases back <;> (simp only [Function.comp_apply, if_true, if_false, Bool.false_eq_true, Bool.and_eq_true, decide_eq_true_eq, List.contains_iff_mem, beq_iff_eq]; rintro ⟨⟨⟨_, h1⟩, _⟩, _, _, h2⟩; rw [h2] at h1; exact hI h1)
theorem cntT_split (ts : List Tie) (bond : ByteArray) (back : Bool) (I : List Int) (f : Int → Bool) : cntT ts bond back I (fun _ => true) = cntT ts bond back I f + cntT ts bond back I (fun x => !f x) := by
  unfold cntT
  refine countP_or _ _ _ (fun t => ?_) (fun t => ?_) ts
  · show (decide (t.bond = bond) && (if back then I.contains t.dst else I.contains t.src) && true) = ((decide (t.bond = bond) && (if back then I.contains t.dst else I.contains t.src) && f (endX back t)) || (decide (t.bond = bond) && (if back then I.contains t.dst else I.contains t.src) && !f (endX back t)))
    generalize (decide (t.bond = bond) && (if back then I.contains t.dst else I.contains t.src)) = c
    generalize f (endX back t) = b
    cases c <;> cases b <;> rfl
  · show ¬ ((decide (t.bond = bond) && (if back then I.contains t.dst else I.contains t.src) && f (endX back t)) = true ∧ (decide (t.bond = bond) && (if back then I.contains t.dst else I.contains t.src) && !f (endX back t)) = true)
    generalize (decide (t.bond = bond) && (if back then I.contains t.dst else I.contains t.src)) = c
    generalize f (endX back t) = b
    cases c <;> cases b <;> simp
theorem cntT_turn (ts : List Tie) (bond : ByteArray) (I : List Int) : cntT ts bond false I (fun x => I.contains x) = cntT ts bond true I (fun x => I.contains x) := by
  unfold cntT
  congr 1
  funext t
  unfold endX
  cases decide (t.bond = bond) <;> simp [Bool.and_comm]
/-- As many go out as come in, but for those that lead nowhere. -/
theorem ends_law (ts : List Tie) (bond : ByteArray) (I : List Int) :
    (cntT ts bond false I (fun _ => true) : Int) - cntT ts bond true I (fun _ => true) = cntT ts bond false I (fun x => !I.contains x) - cntT ts bond true I (fun x => !I.contains x) := by
  have h1 := cntT_split ts bond false I (fun x => I.contains x)
  have h2 := cntT_split ts bond true I (fun x => I.contains x)
  have h3 := cntT_turn ts bond I
  omega
theorem take_snoc_ids {l : List Nod} {k : Nat} {n : Nod} (hn : l[k]? = some n) : (idsN l).take (k + 1) = (idsN l).take k ++ [n.id] := by
  rw [List.take_add_one]
  have : (idsN l)[k]? = some n.id := by unfold idsN; rw [List.getElem?_map, hn]; rfl
  rw [this]; rfl
theorem cntT_le (ts : List Tie) (bond : ByteArray) (back : Bool) (I : List Int) (f : Int → Bool) : cntT ts bond back I f ≤ ts.length := List.countP_le_length
end Go.Proofs.Ythefofclbepkoaa
