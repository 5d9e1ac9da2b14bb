/- Parts: Chk7, OwnS, Simp, Many. -/
import Derived.Test.YtkaolglpmajeaaaGreatMg18
import Derived.Test.YtkaolglpmajeaaaGreatMg08
import Derived.Test.YtkaolglpmajeaaaGreatMg16
import Derived.Test.YtkaolglpmajeaaaGreatMg04
import Derived.Test.YtkaolglpmajeaaaGreatMg05
/- Contracts: check.Faults, check.Conforms, check.NodeFaults. No condition. -/
namespace Go.Proofs.YtkaolglpmajeaaaGreat
open Go Go.RowKit

def faultsR (s : Scm) (g : Grf) : List Flt := if readySG s g = 0 then ofF s g else []
def confR (s : Scm) (g : Grf) : Bool := decide (readySG s g = 0) && decide ((faultsR s g).length = 0)
theorem readySG_zero {s : Scm} {g : Grf} (h : readySG s g = 0) : (scmE s).2 = 0 ∧ grfE g = 0 := by
  unfold readySG at h
  split at h
  · rename_i h0; exact ⟨h0, h⟩
  · rename_i h0; exact absurd h h0
def RetF (l : List Flt) (err : Int) (w : World) (e : Ending) (w' : World) : Prop := ∃ u, e = .returned (.tuple #[u, errV err]) ∧ Sl fltL w' u l ∧ Below w.heap.size w w'

set_option maxHeartbeats 1000000 in
theorem faults_any (s : Scm) (g : Grf) (vk vb vn vt : Value) (w : World) (hs : ScmR w vk vb s) (hg : GrfR w vn vt g) :
    Calls Tryz.prog 14 #[.agg #[vk, vb], .agg #[vn, vt]] w (RetF (faultsR s g) (readySG s g) w) := by
  obtain ⟨A1, c1, rfl, _, _⟩ := hs.1.form
  obtain ⟨A2, c2, rfl, _, _⟩ := hs.2.form
  obtain ⟨A3, c3, rfl, _, _⟩ := hg.1.form
  obtain ⟨A4, c4, rfl, _, _⟩ := hg.2.form
  obtain ⟨W0, hW0⟩ : ∃ W0, W0 = (w.alloc (.cells #[.slice A1 s.kinds.length c1, .slice A2 s.bonds.length c2] 25)).alloc (.cells #[.slice A3 g.nodes.length c3, .slice A4 g.ties.length c4] 29) := ⟨_, rfl⟩
  have hb0 : Below w.heap.size w W0 := by rw [hW0]; exact ((Below.refl _ _).alloc (Nat.le_refl _) _).alloc (by simp) _
  have g0 : W0.heap[w.heap.size]? = some (.cells #[.slice A1 s.kinds.length c1, .slice A2 s.bonds.length c2] 25 (0, 0)) := by
    rw [hW0, Below.heap_alloc _ _ _ (by simp)]; exact heap_alloc_new _ _
  have g1 : W0.heap[w.heap.size + 1]? = some (.cells #[.slice A3 g.nodes.length c3, .slice A4 g.ties.length c4] 29 (0, 0)) := by
    have := heap_alloc_new (w.alloc (.cells #[.slice A1 s.kinds.length c1, .slice A2 s.bonds.length c2] 25)) (.cells #[.slice A3 g.nodes.length c3, .slice A4 g.ties.length c4] 29); rw [hW0]; simpa using this
  have hW0' := hW0.symm
  have HG0 := Lib.hid g0
  have HG1 := Lib.hid g1
  have x0 := block_cell g0 0
  have x1 := block_cell g0 1
  have y0 := block_cell g1 0
  have y1 := block_cell g1 1
  have hw0 := hb0.size
  have hrd := cready_any s g _ _ _ _ W0 (hs.below hb0) (hg.below hb0)
  have HS := Lib.hid (hs.below hb0)
  have HG := Lib.hid (hg.below hb0)
  have HFR : Hid (faultsR s g = if readySG s g = 0 then ofF s g else []) := rfl
  have HZ : Hid (readySG s g = 0 → (scmE s).2 = 0 ∧ grfE g = 0) := readySG_zero
  generalize readySG s g = z at *
  clear hs hg g0 g1 hW0
  go_enter Tryz.func14, Tryz.ntmps14
  go_wp2_with fail
  refine hrd.mono ?_
  clear hrd hW0'
  rintro e w1 ⟨rfl, hb1⟩
  have hB1 := hb0.trans (hb1.mono hw0)
  by_cases he : z = 0
  case neg =>
    have HE : Hid (errV z = .iface 65 (.int .i64 z) ∧ faultsR s g = []) := ⟨errV_some he, by rw [HFR.out, if_neg he]⟩
    rw [errV_some he]
    clear he HFR HZ
    go_wp2_with fail
    go_ret2
    exact ⟨.slice none 0 0, by rw [HE.out.1]; rfl, by rw [HE.out.2]; exact Sl.nil 0 (Nat.zero_le _) none, hB1⟩
  have HE : Hid (errV z = .nilIface ∧ faultsR s g = ofF s g) := ⟨errV_zero he, by rw [HFR.out, if_pos he]⟩
  obtain ⟨z1, z2⟩ := HZ.out he
  have hof := of_any s g _ _ _ _ w1 (HS.out.below hb1) (HG.out.below hb1) z1 z2
  have x0 := cell_below hb1 x0
  have x1 := cell_below hb1 x1
  have y0 := cell_below hb1 y0
  have y1 := cell_below hb1 y1
  rw [errV_zero he]
  clear he HFR HZ z1 z2 hb1
  go_wp2_with fail
  refine hof.mono ?_
  clear hof
  rintro e w2 ⟨u, rfl, hu, hb2⟩
  obtain ⟨A5, c5, rfl, _, _⟩ := hu.form
  have HU := Lib.hid hu
  clear hu
  generalize ofF s g = fl at *
  go_wp2_with fail
  go_ret2
  exact ⟨_, by rw [HE.out.1]; rfl, by rw [HE.out.2]; exact HU.out, hB1.trans (hb2.mono hB1.size)⟩
set_option maxHeartbeats 1000000 in
theorem conforms_any (s : Scm) (g : Grf) (vk vb vn vt : Value) (w : World) (hs : ScmR w vk vb s) (hg : GrfR w vn vt g) :
    Calls Tryz.prog 8 #[.agg #[vk, vb], .agg #[vn, vt]] w fun e w' => e = .returned (.tuple #[.bool (confR s g), errV (readySG s g)]) ∧ Below w.heap.size w w' := by
  obtain ⟨A1, c1, rfl, _, _⟩ := hs.1.form
  obtain ⟨A2, c2, rfl, _, _⟩ := hs.2.form
  obtain ⟨A3, c3, rfl, _, _⟩ := hg.1.form
  obtain ⟨A4, c4, rfl, _, _⟩ := hg.2.form
  obtain ⟨W0, hW0⟩ : ∃ W0, W0 = (w.alloc (.cells #[.slice A1 s.kinds.length c1, .slice A2 s.bonds.length c2] 25)).alloc (.cells #[.slice A3 g.nodes.length c3, .slice A4 g.ties.length c4] 29) := ⟨_, rfl⟩
  have hb0 : Below w.heap.size w W0 := by rw [hW0]; exact ((Below.refl _ _).alloc (Nat.le_refl _) _).alloc (by simp) _
  have g0 : W0.heap[w.heap.size]? = some (.cells #[.slice A1 s.kinds.length c1, .slice A2 s.bonds.length c2] 25 (0, 0)) := by
    rw [hW0, Below.heap_alloc _ _ _ (by simp)]; exact heap_alloc_new _ _
  have g1 : W0.heap[w.heap.size + 1]? = some (.cells #[.slice A3 g.nodes.length c3, .slice A4 g.ties.length c4] 29 (0, 0)) := by
    have := heap_alloc_new (w.alloc (.cells #[.slice A1 s.kinds.length c1, .slice A2 s.bonds.length c2] 25)) (.cells #[.slice A3 g.nodes.length c3, .slice A4 g.ties.length c4] 29); rw [hW0]; simpa using this
  have hW0' := hW0.symm
  have HG0 := Lib.hid g0
  have HG1 := Lib.hid g1
  have x0 := block_cell g0 0
  have x1 := block_cell g0 1
  have y0 := block_cell g1 0
  have y1 := block_cell g1 1
  have hw0 := hb0.size
  have hrd := faults_any s g _ _ _ _ W0 (hs.below hb0) (hg.below hb0)
  have HC : Hid (confR s g = (decide (readySG s g = 0) && decide ((faultsR s g).length = 0))) := rfl
  generalize readySG s g = z at *
  generalize faultsR s g = fl at *
  clear hs hg g0 g1 hW0
  go_enter Tryz.func8, Tryz.ntmps8
  go_wp2_with fail
  refine hrd.mono ?_
  clear hrd hW0'
  rintro e w1 ⟨u, rfl, hu, hb1⟩
  obtain ⟨A5, c5, rfl, _, _⟩ := hu.form
  have hB1 := hb0.trans (hb1.mono hw0)
  clear hu
  by_cases he : z = 0
  case neg =>
    have HE : Hid (errV z = .iface 65 (.int .i64 z) ∧ confR s g = false) := ⟨errV_some he, by rw [HC.out, decide_eq_false he]; rfl⟩
    rw [errV_some he]
    clear he HC
    go_wp2_with fail
    go_ret2
    exact ⟨by rw [HE.out.1, HE.out.2]; rfl, hB1⟩
  rw [errV_zero he]
  by_cases hl : fl.length = 0
  · have HE : Hid (errV z = .nilIface ∧ confR s g = true) := ⟨errV_zero he, by rw [HC.out, decide_eq_true he, decide_eq_true hl]; rfl⟩
    have hq : ((fl.length : Int) == 0) = true := by rw [beq_iff_eq]; omega
    clear he HC hl
    generalize fl.length = nl at *
    go_wp2_with fail
    go_ret2
    exact ⟨by rw [HE.out.1, HE.out.2]; rfl, hB1⟩
  · have HE : Hid (errV z = .nilIface ∧ confR s g = false) := ⟨errV_zero he, by rw [HC.out, decide_eq_true he, decide_eq_false hl]; rfl⟩
    have hq : ((fl.length : Int) == 0) = false := by rw [beq_eq_false_iff_ne]; omega
    clear he HC hl
    generalize fl.length = nl at *
    go_wp2_with fail
    go_ret2
    exact ⟨by rw [HE.out.1, HE.out.2]; rfl, hB1⟩

/-! ### A node by itself -/
def nodeFE (s : Scm) (n : Nod) : Int := if (scmE s).2 = 0 then nodE n else (scmE s).2
def nodeFR (s : Scm) (n : Nod) : List Flt := if nodeFE s n = 0 then aloneF s n else []
theorem nodE_rec {n : Nod} (h5 : nodE n = 0) : n.props.length ≤ 8 ∧ chain prpLt n.props = true := by
  unfold nodE at h5
  split at h5
  · simp at h5
  · split at h5
    · obtain ⟨a, _, c⟩ := rec_ok h5
      exact ⟨a, c⟩
    · rename_i h6; exact absurd h5 h6
end Go.Proofs.YtkaolglpmajeaaaGreat

/- Contract: index.OwnSchema; schemas that a call owns. -/
namespace Go.Proofs.YtkaolglpmajeaaaGreat
open Go Go.RowKit

/-- Kinds of which each one's lists are the call's own. -/
def OwnKnds (w : World) (B : Nat) : List Knd → List Value → Prop
  | [], xs => xs = []
  | d :: l, xs => ∃ u x ys, xs = [.string d.name, u, x] ++ ys ∧ Sm d.name ∧ (∀ p ∈ d.ofs, Sm p) ∧ Own w B 9 1 u d.ofs.length (d.ofs.map Value.string) ∧ (∀ p ∈ d.fields, p.ok) ∧ Own w B 57 4 x d.fields.length (d.fields.flatMap Fld.enc) ∧ OwnKnds w B l ys
theorem OwnKnds.same {w w' : World} {B : Nat} (h1 : Same 9 w w') (h2 : Same 57 w w') : ∀ {l : List Knd} {xs : List Value}, OwnKnds w B l xs → OwnKnds w' B l xs
  | [], _, h => h
  | _ :: _, _, h => by
    obtain ⟨u, x, ys, rfl, a1, a2, a3, a4, a5, a6⟩ := h
    exact ⟨u, x, ys, rfl, a1, a2, a3.same h1, a4, a5.same h2, a6.same h1 h2⟩
theorem OwnKnds.snoc {w : World} {B : Nat} {d : Knd} {u x : Value} (a1 : Sm d.name) (a2 : ∀ p ∈ d.ofs, Sm p) (a3 : Own w B 9 1 u d.ofs.length (d.ofs.map Value.string)) (a4 : ∀ p ∈ d.fields, p.ok) (a5 : Own w B 57 4 x d.fields.length (d.fields.flatMap Fld.enc)) :
    ∀ {l : List Knd} {xs : List Value}, OwnKnds w B l xs → OwnKnds w B (l ++ [d]) (xs ++ [.string d.name, u, x])
  | [], xs, h => by rw [show xs = [] from h]; exact ⟨u, x, [], by simp, a1, a2, a3, a4, a5, rfl⟩
  | e :: l, xs, h => by
    obtain ⟨v, y, ys, rfl, b1, b2, b3, b4, b5, b6⟩ := h
    exact ⟨v, y, ys ++ [.string d.name, u, x], by simp, b1, b2, b3, b4, b5, b6.snoc a1 a2 a3 a4 a5⟩
theorem OwnKnds.len {w : World} {B : Nat} : ∀ {l : List Knd} {xs : List Value}, OwnKnds w B l xs → xs.length = l.length * 3
  | [], xs, h => by rw [show xs = [] from h]; rfl
  | d :: l, xs, h => by
    obtain ⟨u, x, ys, rfl, _, _, _, _, _, h6⟩ := h
    have := h6.len
    simp only [List.length_append, List.length_cons, List.length_nil, this]
    omega
theorem OwnKnds.row {w : World} {B : Nat} : ∀ {l : List Knd} {xs : List Value}, OwnKnds w B l xs → Row kndL w l xs
  | [], _, h => h
  | _ :: _, _, h => by
    obtain ⟨u, x, ys, rfl, a1, a2, a3, a4, a5, a6⟩ := h
    exact ⟨_, ys, rfl, ⟨u, x, rfl, a1, Own.strs a2 a3, a5.flds a4⟩, a6.row⟩
theorem OwnKnds.append {w : World} {B : Nat} : ∀ {l m : List Knd} {xs ys : List Value}, OwnKnds w B l xs → OwnKnds w B m ys → OwnKnds w B (l ++ m) (xs ++ ys)
  | [], m, xs, ys, h, k => by rw [show xs = [] from h]; exact k
  | d :: l, m, xs, ys, h, k => by
    obtain ⟨u, x, zs, rfl, a1, a2, a3, a4, a5, a6⟩ := h
    exact ⟨u, x, zs ++ ys, by simp, a1, a2, a3, a4, a5, a6.append k⟩
/-- No two kinds have their fields in one block. -/
def FDist (xs : List Value) : Prop := ∀ (i j : Nat) (x y : Value) (b : Nat), i < j → xs[i * 3 + 2]? = some x → xs[j * 3 + 2]? = some y → x.ownBlock = some b → y.ownBlock ≠ some b
theorem FDist.nil : FDist [] := fun i j x y b _ h => by simp at h
theorem FDist.snoc {ys : List Value} {k : Nat} {a u x : Value} (h : FDist ys) (hl : ys.length = k * 3) (hn : ∀ (i : Nat) (y : Value) (b : Nat), ys[i * 3 + 2]? = some y → y.ownBlock = some b → x.ownBlock ≠ some b) : FDist (ys ++ [a, u, x]) := by
  intro i j y z b hij hi hj hb
  have hjl : j * 3 + 2 < (ys ++ [a, u, x]).length := (List.getElem?_eq_some_iff.1 hj).1
  rw [List.length_append, hl] at hjl
  simp only [List.length_cons, List.length_nil] at hjl
  have hil : i * 3 + 2 < ys.length := by omega
  rw [List.getElem?_append_left hil] at hi
  by_cases hjk : j < k
  · rw [List.getElem?_append_left (by omega)] at hj
    exact h i j y z b hij hi hj hb
  · obtain rfl : j = k := by omega
    rw [List.getElem?_append_right (by omega), hl, show j * 3 + 2 - j * 3 = 2 by omega] at hj
    simp at hj
    subst hj
    exact hn i y b hi hb
theorem FDist.put {xs : List Value} {k : Nat} {v : Value} (h : FDist xs) (hn : ∀ (i : Nat) (y : Value) (b : Nat), i ≠ k → xs[i * 3 + 2]? = some y → y.ownBlock = some b → v.ownBlock ≠ some b) : FDist (xs.set (k * 3 + 2) v) := by
  intro i j y z b hij hi hj hb
  rw [List.getElem?_set] at hi hj
  by_cases e1 : k = i
  · subst e1
    rw [if_pos rfl] at hi
    rw [if_neg (by omega)] at hj
    split at hi
    · simp at hi; subst hi
      intro hz
      exact hn j z b (by omega) hj hz hb
    · cases hi
  · rw [if_neg (by omega)] at hi
    by_cases e2 : k = j
    · subst e2
      rw [if_pos rfl] at hj
      split at hj
      · simp at hj; subst hj
        exact hn i y b (fun e => e1 e.symm) hi hb
      · cases hj
    · rw [if_neg (by omega)] at hj
      exact h i j y z b hij hi hj hb
theorem OwnKnds.flt {w : World} {B : Nat} : ∀ {l : List Knd} {xs : List Value}, OwnKnds w B l xs → ∀ (i : Nat) (y : Value) (b : Nat), xs[i * 3 + 2]? = some y → y.ownBlock = some b → b < w.heap.size
  | [], xs, h, i, y, b, hi, _ => by rw [show xs = [] from h] at hi; simp at hi
  | e :: l, xs, h, 0, y, b, hi, hb => by
    obtain ⟨u, x, ys, rfl, _, _, _, _, a5, _⟩ := h
    simp at hi
    subst hi
    exact (a5.lt b hb).2
  | e :: l, xs, h, i + 1, y, b, hi, hb => by
    obtain ⟨u, x, ys, rfl, _, _, _, _, _, a6⟩ := h
    rw [show (i + 1) * 3 + 2 = i * 3 + 2 + 1 + 1 + 1 by omega] at hi
    exact OwnKnds.flt a6 i y b hi hb
/-- A schema that is the call's own. -/
structure OwnS (w : World) (B : Nat) (vk vb : Value) (s : Scm) (xs : List Value) : Prop where
  n : Own w B 61 3 vk s.kinds.length xs
  o : OwnKnds w B s.kinds xs
  b : Own w B 63 5 vb s.bonds.length (s.bonds.flatMap Bnd.enc)
  k : ∀ x ∈ s.bonds, x.ok
  d : FDist xs
theorem OwnS.r {w : World} {B : Nat} {vk vb : Value} {s : Scm} {xs : List Value} (h : OwnS w B vk vb s xs) : ScmR w vk vb s := ⟨Own.row (L := kndL) h.n h.o.row, Own.bnds h.b h.k⟩
theorem OwnS.below {w w' : World} {B : Nat} {vk vb : Value} {s : Scm} {xs : List Value} (h : OwnS w B vk vb s xs) (hb : Below w.heap.size w w') : OwnS w' B vk vb s xs := ⟨h.n.below hb, h.o.same (.below hb) (.below hb), h.b.below hb, h.k, h.d⟩
theorem OwnS.same {w w' : World} {B : Nat} {vk vb : Value} {s : Scm} {xs : List Value} (h : OwnS w B vk vb s xs) (h1 : Same 61 w w') (h2 : Same 9 w w') (h3 : Same 57 w w') (h4 : Same 63 w w') : OwnS w' B vk vb s xs :=
  ⟨h.n.same h1, h.o.same h2 h3, h.b.same h4, h.k, h.d⟩
/-- What stands between two rounds: the first k kinds have lists of the call's own. -/
structure OwnSI (w wr : World) (s : Scm) (xs0 : List Value) (vk vb : Value) (k : Nat) (ys : List Value) : Prop where
  b : Below w.heap.size w wr
  z : w.heap.size + 2 ≤ wr.heap.size
  q : wr.heap[w.heap.size]? = some (.cells #[vk, vb] 25 (0, 0))
  r : wr.heap[w.heap.size + 1]? = some (.cells #[.slice none 0 0, .slice none 0 0] 25 (0, 0))
  n : Own wr w.heap.size 61 3 vk s.kinds.length (ys ++ xs0.drop (k * 3))
  o : OwnKnds wr w.heap.size (s.kinds.take k) ys
  t : Own wr w.heap.size 63 5 vb s.bonds.length (s.bonds.flatMap Bnd.enc)
  dd : FDist ys
theorem OwnSI.step {w wr w2 : World} {s : Scm} {xs0 ys : List Value} {gb o c : Nat} {vb u x : Value} {k : Nat} {d : Knd} (h : OwnSI w wr s xs0 (.slice (some ⟨gb, o, none⟩) s.kinds.length c) vb k ys) (hd : s.kinds[k]? = some d) (h1 : Sm d.name)
    (hlen : xs0.length = s.kinds.length * 3) (hx0 : xs0[k * 3]? = some (.string d.name)) (hb : Below wr.heap.size wr w2) (a2 : ∀ p ∈ d.ofs, Sm p) (a3 : Own w2 wr.heap.size 9 1 u d.ofs.length (d.ofs.map Value.string)) (a4 : ∀ p ∈ d.fields, p.ok) (a5 : Own w2 wr.heap.size 57 4 x d.fields.length (d.fields.flatMap Fld.enc)) :
    OwnSI w ((w2.setCell ⟨gb, o + k * 3 + 1, none⟩ u).setCell ⟨gb, o + k * 3 + 2, none⟩ x) s xs0 (.slice (some ⟨gb, o, none⟩) s.kinds.length c) vb (k + 1) (ys ++ [.string d.name, u, x]) := by
  have hkl := (List.getElem?_eq_some_iff.1 hd).1
  have hz := h.z
  have hyl := h.o.len
  have hyl' : ys.length = k * 3 := by rw [hyl, List.length_take, Nat.min_eq_left (by omega)]
  have o0 := h.n.below hb
  have o1 := o0.store (k * 3 + 1) (by omega) u
  have o2 := o1.store (k * 3 + 2) (by omega) x
  have hs2 : ∀ T, 61 ≠ T → Same T w2 ((w2.setCell ⟨gb, o + k * 3 + 1, none⟩ u).setCell ⟨gb, o + k * 3 + 2, none⟩ x) := fun T hT =>
    (Same.cellOf o0 hT _ _).trans (Same.cellOf o1 hT _ _)
  have hs : ∀ T, 61 ≠ T → Same T wr ((w2.setCell ⟨gb, o + k * 3 + 1, none⟩ u).setCell ⟨gb, o + k * 3 + 2, none⟩ x) := fun T hT => (Same.below hb).trans (hs2 T hT)
  have hgb := (o0.lt gb rfl).1
  have hx : (((ys ++ xs0.drop (k * 3)).set (k * 3 + 1) u).set (k * 3 + 2) x) = ys ++ [.string d.name, u, x] ++ xs0.drop ((k + 1) * 3) := by
    have e : xs0.drop (k * 3) = (xs0.drop (k * 3)).take 3 ++ xs0.drop ((k + 1) * 3) := by
      rw [show (k + 1) * 3 = k * 3 + 3 by omega, ← List.drop_drop, List.take_append_drop]
    have hl3 : ((xs0.drop (k * 3)).take 3).length = 3 := by rw [List.length_take, List.length_drop]; omega
    have h0 : ((xs0.drop (k * 3)).take 3)[0]? = some (.string d.name) := by rw [List.getElem?_take]; simp; simpa using hx0
    rw [e]
    generalize (xs0.drop (k * 3)).take 3 = Z at *
    match Z, hl3, h0 with
    | [a, b, c'], _, h0 =>
      obtain rfl : a = .string d.name := by simpa using h0
      have s := setAll_append ys [.string d.name, u, x] ([.string d.name, b, c'] ++ xs0.drop ((k + 1) * 3)) 0
      rw [setAll_head [.string d.name, u, x] [.string d.name, b, c'] (xs0.drop ((k + 1) * 3)) rfl, Nat.add_zero, hyl'] at s
      rw [List.append_assoc, ← s]
      show _ = (((ys ++ ([.string d.name, b, c'] ++ xs0.drop ((k + 1) * 3))).set (k * 3) (.string d.name)).set (k * 3 + 1) u).set (k * 3 + 2) x
      have e0 : (ys ++ ([.string d.name, b, c'] ++ xs0.drop ((k + 1) * 3))).set (k * 3) (.string d.name) = ys ++ ([.string d.name, b, c'] ++ xs0.drop ((k + 1) * 3)) := by
        rw [List.set_append_right (k * 3) (Value.string d.name) (by omega), hyl', Nat.sub_self]
        rfl
      rw [e0]
  rw [hx] at o2
  refine ⟨?_, ?_, hs _ (by decide) _ _ _ h.q, hs _ (by decide) _ _ _ h.r, o2, ?_, h.t.same (hs _ (by decide)), h.dd.snoc hyl' (fun i y b hy hb2 => by
    have h1 := h.o.flt i y b hy hb2
    intro h2
    have := (a5.lt b h2).1
    omega)⟩
  · exact ((h.b.trans (hb.mono h.b.size)).setCell (p := ⟨gb, _, none⟩) hgb _).setCell (p := ⟨gb, _, none⟩) hgb _
  · have := hb.size
    simp [World.setCell]; omega
  · rw [take_snoc hd]
    exact (h.o.same (hs _ (by decide)) (hs _ (by decide))).snoc h1 a2 ((a3.same (hs2 _ (by decide))).mono (by omega)) a4 ((a5.same (hs2 _ (by decide))).mono (by omega))
end Go.Proofs.YtkaolglpmajeaaaGreat

/- Contract: kinlaw4.simple. No condition. -/
namespace Go.Proofs.YtkaolglpmajeaaaGreat
open Go Go.RowKit

def simpS (mx : Int) : Scm := ⟨[⟨⟨#[97]⟩, [], [⟨⟨#[107]⟩, 1, true, true⟩]⟩], [⟨⟨#[112]⟩, ⟨#[97]⟩, ⟨#[97]⟩, 0, mx⟩]⟩
/-- The blocks of the simple schema. -/
theorem simp_read {W : World} {mx : Int} {f k p : Nat} (hmx : I64 mx) (h1 : W.heap[f]? = some (.cells #[.string ⟨#[107]⟩, .int .i64 1, .bool true, .bool true] 57 (0, 0)))
    (h2 : W.heap[k]? = some (.cells #[.string ⟨#[97]⟩, .slice none 0 0, .slice (some ⟨f, 0, none⟩) 1 1] 61 (0, 0)))
    (h3 : W.heap[p]? = some (.cells #[.string ⟨#[112]⟩, .string ⟨#[97]⟩, .string ⟨#[97]⟩, .int .i64 0, .int .i64 mx] 63 (0, 0))) :
    ScmR W (.slice (some ⟨k, 0, none⟩) 1 1) (.slice (some ⟨p, 0, none⟩) 1 1) (simpS mx) := by
  have hm : Sm ⟨#[97]⟩ ∧ Sm ⟨#[107]⟩ ∧ Sm ⟨#[112]⟩ := ⟨by show 1 ≤ 1048576; omega, by show 1 ≤ 1048576; omega, by show 1 ≤ 1048576; omega⟩
  have hf : Sl fldL W (.slice (some ⟨f, 0, none⟩) 1 1) [⟨⟨#[107]⟩, 1, true, true⟩] := sl_block (t := 57) (fr := (0, 0)) Fld.enc_len [⟨⟨#[107]⟩, 1, true, true⟩] (fun x hx => by simp at hx; subst hx; exact ⟨hm.2.1, by show I64 (1 : Int); unfold I64; omega⟩) 1 (by simp) (by simp [maxLen]) h1
  constructor
  · refine ⟨_, 1, rfl, Nat.le_refl _, by simp [maxLen], fun i d hi => ?_⟩
    match i, hi with
    | 0, hi =>
      injection hi with e; subst e
      refine ⟨_, 0, [.string ⟨#[97]⟩, .slice none 0 0, .slice (some ⟨f, 0, none⟩) 1 1], rfl, ⟨_, _, rfl, hm.1, Sl.nil 0 (Nat.zero_le _) none, hf⟩, fun j u hj => ?_⟩
      rw [block_cell h2]
      simpa using hj
    | i + 1, hi => simp [simpS] at hi
  · exact sl_block (t := 63) (fr := (0, 0)) Bnd.enc_len [⟨⟨#[112]⟩, ⟨#[97]⟩, ⟨#[97]⟩, 0, mx⟩] (fun x hx => by simp at hx; subst hx; exact ⟨hm.2.2, hm.1, hm.1, by show I64 (0 : Int); unfold I64; omega, hmx⟩) 1 (by simp) (by simp [maxLen]) h3
set_option maxHeartbeats 1000000 in
theorem simple_any (mx : Int) (w : World) (hmx : I64 mx) :
    Calls Tryz.prog 5 #[.int .i64 mx] w fun e w' => ∃ vk vb, e = .returned (.agg #[vk, vb]) ∧ ScmR w' vk vb (simpS mx) ∧ Below w.heap.size w w' := by
  go_enter Tryz.func5, Tryz.ntmps5
  go_wp2_with fail
  have hb1 : Below w.heap.size w ((((w.alloc (.cells #[.slice (some ⟨w.heap.size + 1 + 1, 0, none⟩) 1 1, .slice (some ⟨w.heap.size + 1 + 1 + 1, 0, none⟩) 1 1] 25)).alloc
    (.cells #[.string ⟨#[107]⟩, .int .i64 1, .bool true, .bool true] 57)).alloc (.cells #[.string ⟨#[97]⟩, .slice none 0 0, .slice (some ⟨w.heap.size + 1, 0, none⟩) 1 1] 61)).alloc
    (.cells #[.string ⟨#[112]⟩, .string ⟨#[97]⟩, .string ⟨#[97]⟩, .int .i64 0, .int .i64 mx] 63)) := ((((Below.refl _ _).alloc (Nat.le_refl _) _).alloc (by simp) _).alloc (by simp; omega) _).alloc (by simp; omega) _
  have h1 := heap_alloc_new (w.alloc (.cells #[.slice (some ⟨w.heap.size + 1 + 1, 0, none⟩) 1 1, .slice (some ⟨w.heap.size + 1 + 1 + 1, 0, none⟩) 1 1] 25)) (.cells #[.string ⟨#[107]⟩, .int .i64 1, .bool true, .bool true] 57)
  have h2 := heap_alloc_new ((w.alloc (.cells #[.slice (some ⟨w.heap.size + 1 + 1, 0, none⟩) 1 1, .slice (some ⟨w.heap.size + 1 + 1 + 1, 0, none⟩) 1 1] 25)).alloc (.cells #[.string ⟨#[107]⟩, .int .i64 1, .bool true, .bool true] 57))
    (.cells #[.string ⟨#[97]⟩, .slice none 0 0, .slice (some ⟨w.heap.size + 1, 0, none⟩) 1 1] 61)
  have h3 := heap_alloc_new (((w.alloc (.cells #[.slice (some ⟨w.heap.size + 1 + 1, 0, none⟩) 1 1, .slice (some ⟨w.heap.size + 1 + 1 + 1, 0, none⟩) 1 1] 25)).alloc (.cells #[.string ⟨#[107]⟩, .int .i64 1, .bool true, .bool true] 57)).alloc
    (.cells #[.string ⟨#[97]⟩, .slice none 0 0, .slice (some ⟨w.heap.size + 1, 0, none⟩) 1 1] 61)) (.cells #[.string ⟨#[112]⟩, .string ⟨#[97]⟩, .string ⟨#[97]⟩, .int .i64 0, .int .i64 mx] 63)
  have z0 := heap_alloc_new w (.cells #[.slice (some ⟨w.heap.size + 1 + 1, 0, none⟩) 1 1, .slice (some ⟨w.heap.size + 1 + 1 + 1, 0, none⟩) 1 1] 25)
  simp only [World.size_alloc] at h1 h2 h3
  have h1' := (Below.heap_alloc _ (.cells #[.string ⟨#[112]⟩, .string ⟨#[97]⟩, .string ⟨#[97]⟩, .int .i64 0, .int .i64 mx] 63) _ (by simp)).trans ((Below.heap_alloc _ (.cells #[.string ⟨#[97]⟩, .slice none 0 0, .slice (some ⟨w.heap.size + 1, 0, none⟩) 1 1] 61) _ (by simp)).trans h1)
  have h2' := (Below.heap_alloc _ (.cells #[.string ⟨#[112]⟩, .string ⟨#[97]⟩, .string ⟨#[97]⟩, .int .i64 0, .int .i64 mx] 63) _ (by simp)).trans h2
  have z1 := (Below.heap_alloc _ (.cells #[.string ⟨#[112]⟩, .string ⟨#[97]⟩, .string ⟨#[97]⟩, .int .i64 0, .int .i64 mx] 63) _ (by simp only [World.size_alloc]; omega)).trans ((Below.heap_alloc _ (.cells #[.string ⟨#[97]⟩, .slice none 0 0, .slice (some ⟨w.heap.size + 1, 0, none⟩) 1 1] 61) _ (by simp only [World.size_alloc]; omega)).trans ((Below.heap_alloc _ (.cells #[.string ⟨#[107]⟩, .int .i64 1, .bool true, .bool true] 57) _ (by simp only [World.size_alloc]; omega)).trans z0))
  have k0 := block_cell z1 0
  have k1 := block_cell z1 1
  exact bodyPost_ret (v := .agg #[.slice (some ⟨w.heap.size + 1 + 1, 0, none⟩) 1 1, .slice (some ⟨w.heap.size + 1 + 1 + 1, 0, none⟩) 1 1]) (by simp [results, Tryz.results5, go_sem, k0, k1]) rfl
    ⟨_, _, rfl, simp_read hmx h1' h2' h3, hb1⟩
end Go.Proofs.YtkaolglpmajeaaaGreat

/- Contracts: kinlaw4.number, kinlaw4.many: so many nodes in a row. -/
namespace Go.Proofs.YtkaolglpmajeaaaGreat
open Go Go.RowKit

def manyNod (i : Nat) : Nod := ⟨(i : Int) + 1, ⟨#[97]⟩, [⟨⟨#[107]⟩, ⟨1, (i : Int) + 1, .empty⟩⟩]⟩
def manyTie (i : Nat) : Tie := ⟨⟨#[112]⟩, (i : Int) + 1, (i : Int) + 2⟩
def manyG (n t : Nat) : Grf := ⟨(List.range n).map manyNod, (List.range t).map manyTie⟩
theorem nod_info : (Tryz.prog.info? 40).map (fun i => (i.zero, i.size, i.bytes)) = some (some (.agg #[.int .i64 0, .string .empty, .slice none 0 0]), 3, 48) := by kernel_rfl
theorem tie_info : (Tryz.prog.info? 46).map (fun i => (i.zero, i.size, i.bytes)) = some (some (.agg #[.string .empty, .int .i64 0, .int .i64 0]), 3, 32) := by kernel_rfl
theorem many_snoc (k : Nat) : (List.range (k + 1)).map manyNod = (List.range k).map manyNod ++ [manyNod k] := by rw [List.range_succ, List.map_append]; rfl
theorem many_tsnoc (k : Nat) : (List.range (k + 1)).map manyTie = (List.range k).map manyTie ++ [manyTie k] := by rw [List.range_succ, List.map_append]; rfl

theorem cell_new2 {W : World} {o : Obj} {cs : Array Value} {T : TypeId} {j : Nat} : ((W.alloc o).alloc (.cells cs T)).cell? ⟨W.heap.size + 1, j, none⟩ = cs[j]? := by rw [World.cell?_alloc_at _ _ _ _ (by simp)]
/-- What stands between two rounds. -/
structure ManyI (B : Nat) (w wr : World) (v u : Value) (k m : Nat) (xs ys : List Value) : Prop where
  b : Below B w wr
  r : wr.heap[B]? = some (.cells #[.slice none 0 0, .slice none 0 0] 29 (0, 0))
  g : wr.heap[B + 1]? = some (.cells #[v, u] 29 (0, 0))
  n : Own wr B 40 3 v k xs
  o : OwnNods wr B ((List.range k).map manyNod) xs
  t : Own wr B 46 3 u m ys
  f : ys = ((List.range m).map manyTie).flatMap Tie.enc

theorem ManyI.step {B : Nat} {w wr w2 w7 : World} {v u v7 : Value} {k m : Nat} {xs ys : List Value} (hk : k < 1000) (hI : ManyI B w wr v u k m xs ys) (hb2 : Below wr.heap.size wr w2)
    (hown7 : Own w7 B 40 3 v7 (k + 1) (xs ++ [.int .i64 ((k : Int) + 1), .string ⟨#[97]⟩, .slice (some ⟨w2.heap.size, 0, none⟩) 1 1]))
    (hg7 : ((w2.alloc (.cells #[.string ⟨#[107]⟩, .int .i64 1, .int .i64 ((k : Int) + 1), .string .empty] 44)).alloc (.cells #[.int .i64 ((k : Int) + 1), .string ⟨#[97]⟩, .slice (some ⟨w2.heap.size, 0, none⟩) 1 1] 40)).grownBy w7 v.ownBlock) :
    ManyI B w (w7.setCell ⟨B + 1, 0, none⟩ v7) v7 u (k + 1) m (xs ++ [.int .i64 ((k : Int) + 1), .string ⟨#[97]⟩, .slice (some ⟨w2.heap.size, 0, none⟩) 1 1]) ys := by
  have hbw := hI.b.size
  have hw2 := hb2.size
  have hlB := (Array.getElem?_eq_some_iff.1 hI.g).1
  have up : ∀ (j : Nat) (o : Obj), wr.heap[j]? = some o → ((w2.alloc (.cells #[.string ⟨#[107]⟩, .int .i64 1, .int .i64 ((k : Int) + 1), .string .empty] 44)).alloc (.cells #[.int .i64 ((k : Int) + 1), .string ⟨#[97]⟩, .slice (some ⟨w2.heap.size, 0, none⟩) 1 1] 40)).heap[j]? = some o := fun j o h => by
    have hl := (Array.getElem?_eq_some_iff.1 h).1
    rw [Below.heap_alloc _ _ _ (by simp; omega), Below.heap_alloc _ _ _ (by omega)]
    exact (hb2.block j hl).trans h
  have hoW : Own ((w2.alloc (.cells #[.string ⟨#[107]⟩, .int .i64 1, .int .i64 ((k : Int) + 1), .string .empty] 44)).alloc (.cells #[.int .i64 ((k : Int) + 1), .string ⟨#[97]⟩, .slice (some ⟨w2.heap.size, 0, none⟩) 1 1] 40)) B 40 3 v k xs := ((hI.n.below hb2).alloc _).alloc _
  have hgW := up _ _ hI.g
  have hg7g := grown_block hg7 hgW (hoW.ne_block hgW (by decide))
  have hrW := up _ _ hI.r
  have hr7 := grown_block hg7 hrW (hoW.ne_block hrW (by decide))
  have hsame : ∀ T, 40 ≠ T → 29 ≠ T → Same T ((w2.alloc (.cells #[.string ⟨#[107]⟩, .int .i64 1, .int .i64 ((k : Int) + 1), .string .empty] 44)).alloc (.cells #[.int .i64 ((k : Int) + 1), .string ⟨#[97]⟩, .slice (some ⟨w2.heap.size, 0, none⟩) 1 1] 40)) (w7.setCell ⟨B + 1, 0, none⟩ v7) := fun T h1 h2 =>
    (Same.grown hoW h1 hg7).trans (Same.setCell (p := ⟨B + 1, 0, none⟩) hg7g h2 v7)
  have hfull : ∀ T, 40 ≠ T → 29 ≠ T → Same T wr (w7.setCell ⟨B + 1, 0, none⟩ v7) := fun T h1 h2 => (Same.below hb2).trans ((Same.alloc _ _).trans ((Same.alloc _ _).trans (hsame T h1 h2)))
  have hpb : ((w2.alloc (.cells #[.string ⟨#[107]⟩, .int .i64 1, .int .i64 ((k : Int) + 1), .string .empty] 44)).alloc (.cells #[.int .i64 ((k : Int) + 1), .string ⟨#[97]⟩, .slice (some ⟨w2.heap.size, 0, none⟩) 1 1] 40)).heap[w2.heap.size]? = some (.cells #[.string ⟨#[107]⟩, .int .i64 1, .int .i64 ((k : Int) + 1), .string .empty] 44 (0, 0)) := by
    rw [Below.heap_alloc _ _ _ (by simp)]; exact heap_alloc_new _ _
  have hop : Own ((w2.alloc (.cells #[.string ⟨#[107]⟩, .int .i64 1, .int .i64 ((k : Int) + 1), .string .empty] 44)).alloc (.cells #[.int .i64 ((k : Int) + 1), .string ⟨#[97]⟩, .slice (some ⟨w2.heap.size, 0, none⟩) 1 1] 40)) B 44 4 (.slice (some ⟨w2.heap.size, 0, none⟩) 1 1) 1 [.string ⟨#[107]⟩, .int .i64 1, .int .i64 ((k : Int) + 1), .string .empty] :=
    own_of_block hpb (by omega) rfl (by simp [maxLen])
  refine ⟨?_, ?_, ?_, ?_, ?_, ?_, hI.f⟩
  · have h1 : Below B w w2 := hI.b.trans (hb2.mono (by omega))
    have h2 := ((h1.alloc (by omega) (.cells #[.string ⟨#[107]⟩, .int .i64 1, .int .i64 ((k : Int) + 1), .string .empty] 44)).alloc (by simp; omega) (.cells #[.int .i64 ((k : Int) + 1), .string ⟨#[97]⟩, .slice (some ⟨w2.heap.size, 0, none⟩) 1 1] 40))
    exact (h2.grown hg7 (by simp; omega) (fun j e => (hoW.lt j e).1)).setCell (p := ⟨B + 1, 0, none⟩) (by simp) v7
  · rw [Below.heap_setCell _ _ _ _ (by simp)]; exact hr7
  · exact setCell_block hg7g 0 v7
  · exact hown7.setCell _ _ (fun e => (hown7.ne_block hg7g (by decide)) e.symm)
  · rw [many_snoc]
    exact (hI.o.same (hfull _ (by decide) (by decide))).snoc (d := manyNod k) (by show I64 ((k : Int) + 1); unfold I64; omega) (by show 1 ≤ 1048576; omega)
      (fun p hp => by simp [manyNod] at hp; subst hp; exact ⟨by show 1 ≤ 1048576; omega, by show I64 (1 : Int); unfold I64; omega, by show I64 ((k : Int) + 1); unfold I64; omega, by show 0 ≤ 1048576; omega⟩) (hop.same (hsame _ (by decide) (by decide)))
  · exact hI.t.same (hfull _ (by decide) (by decide))

theorem ManyI.stepT {B : Nat} {w wr w7 : World} {v u u7 : Value} {k m : Nat} {xs ys : List Value} (hI : ManyI B w wr v u k m xs ys)
    (hown7 : Own w7 B 46 3 u7 (m + 1) (ys ++ [.string ⟨#[112]⟩, .int .i64 ((m : Int) + 1), .int .i64 ((m : Int) + 2)]))
    (hg7 : (wr.alloc (.cells #[.string ⟨#[112]⟩, .int .i64 ((m : Int) + 1), .int .i64 ((m : Int) + 2)] 46)).grownBy w7 u.ownBlock) :
    ManyI B w (w7.setCell ⟨B + 1, 1, none⟩ u7) v u7 k (m + 1) xs (ys ++ [.string ⟨#[112]⟩, .int .i64 ((m : Int) + 1), .int .i64 ((m : Int) + 2)]) := by
  have hlB := (Array.getElem?_eq_some_iff.1 hI.g).1
  have up : ∀ (j : Nat) (o : Obj), wr.heap[j]? = some o → (wr.alloc (.cells #[.string ⟨#[112]⟩, .int .i64 ((m : Int) + 1), .int .i64 ((m : Int) + 2)] 46)).heap[j]? = some o := fun j o h => by
    rw [Below.heap_alloc _ _ _ (Array.getElem?_eq_some_iff.1 h).1]; exact h
  have hoW := hI.t.alloc (.cells #[.string ⟨#[112]⟩, .int .i64 ((m : Int) + 1), .int .i64 ((m : Int) + 2)] 46)
  have hgW := up _ _ hI.g
  have hg7g := grown_block hg7 hgW (hoW.ne_block hgW (by decide))
  have hrW := up _ _ hI.r
  have hr7 := grown_block hg7 hrW (hoW.ne_block hrW (by decide))
  have hfull : ∀ T, 46 ≠ T → 29 ≠ T → Same T wr (w7.setCell ⟨B + 1, 1, none⟩ u7) := fun T h1 h2 => (Same.alloc _ _).trans ((Same.grown hoW h1 hg7).trans (Same.setCell (p := ⟨B + 1, 1, none⟩) hg7g h2 u7))
  refine ⟨?_, ?_, ?_, ?_, ?_, ?_, ?_⟩
  · exact ((hI.b.alloc (by omega) _).grown hg7 (by simp; omega) (fun j e => (hoW.lt j e).1)).setCell (p := ⟨B + 1, 1, none⟩) (by simp) u7
  · rw [Below.heap_setCell _ _ _ _ (by simp)]; exact hr7
  · exact setCell_block hg7g 1 u7
  · exact hI.n.same (hfull _ (by decide) (by decide))
  · exact hI.o.same (hfull _ (by decide) (by decide))
  · exact hown7.setCell _ _ (fun e => (hown7.ne_block hg7g (by decide)) e.symm)
  · rw [many_tsnoc, List.flatMap_append, ← hI.f]; rfl
theorem ManyI.ends {B : Nat} {w wr wF : World} {v u : Value} {k m : Nat} {xs ys : List Value} (hm : m ≤ 1000) (hI : ManyI B w wr v u k m xs ys) (hs : ∀ T, 29 ≠ T → Same T wr wF) : GrfR wF v u (manyG k m) := by
  have h1 := hI.n.same (hs _ (by decide))
  have h2 := hI.o.same (hs _ (by decide))
  have h3 := hI.t.same (hs _ (by decide))
  rw [hI.f] at h3
  have hn : k = (manyG k m).nodes.length := by simp [manyG]
  have ht : m = (manyG k m).ties.length := by simp [manyG]
  refine ⟨Own.nods (by rw [← hn]; exact h1) h2, Own.ties (by rw [← ht]; exact h3) fun x hx => ?_⟩
  simp only [manyG, List.mem_map, List.mem_range] at hx
  obtain ⟨j, hj, rfl⟩ := hx
  exact ⟨by show 1 ≤ 1048576; omega, by show I64 ((j : Int) + 1); unfold I64; omega, by show I64 ((j : Int) + 2); unfold I64; omega⟩

/-- The row is the call's own. -/
structure ManyO (B : Nat) (wF : World) (v u : Value) (k m : Nat) (xs : List Value) : Prop where
  n : Own wF B 40 3 v k xs
  o : OwnNods wF B ((List.range k).map manyNod) xs
  t : Own wF B 46 3 u m (((List.range m).map manyTie).flatMap Tie.enc)
theorem ManyI.own {B : Nat} {w wr wF : World} {v u : Value} {k m : Nat} {xs ys : List Value} (hI : ManyI B w wr v u k m xs ys) (hs : ∀ T, 29 ≠ T → Same T wr wF) : ManyO B wF v u k m xs := by
  have h3 := hI.t.same (hs _ (by decide))
  rw [hI.f] at h3
  exact ⟨hI.n.same (hs _ (by decide)), hI.o.same (hs _ (by decide)), h3⟩
set_option maxRecDepth 100000 in
set_option maxHeartbeats 8000000 in
theorem manyO_any (n t : Nat) (w : World) (hn : n ≤ 1000) (ht : t ≤ 1000) :
    Calls Tryz.prog 6 #[.int .i64 n, .int .i64 t] w fun e w' => ∃ v u xs, e = .returned (.agg #[v, u]) ∧ ManyO w.heap.size w' v u n t xs ∧ GrfR w' v u (manyG n t) ∧ Below w.heap.size w w' := by
  have hn' : (n : Int) ≤ 1000 := by omega
  have ht' : (t : Int) ≤ 1000 := by omega
  obtain ⟨i0, ei, ez, ez1, ez2⟩ := info_parts nod_info
  have hI0 : ManyI w.heap.size w ((w.alloc (.cells #[.slice none 0 0, .slice none 0 0] 29)).alloc (.cells #[.slice none 0 0, .slice none 0 0] 29)) (.slice none 0 0) (.slice none 0 0) 0 0 [] [] :=
    ⟨((Below.refl _ _).alloc (Nat.le_refl _) _).alloc (by simp) _, by rw [Below.heap_alloc _ _ _ (by simp)]; exact heap_alloc_new _ _, by have := heap_alloc_new (w.alloc (.cells #[.slice none 0 0, .slice none 0 0] 29)) (.cells #[.slice none 0 0, .slice none 0 0] 29); simpa using this, Own.nil _ _ _ _, rfl, Own.nil _ _ _ _, rfl⟩
  go_enter Tryz.func6, Tryz.ntmps6
  go_wp2_with fail
  go_loopw [6] (fun i wr => ∃ (k : Nat) (v : Value) (xs : List Value), k ≤ n ∧ i = .int .i64 ((k : Int) + 1) ∧ ManyI w.heap.size w wr v (.slice none 0 0) k 0 xs []) (fun i _ => n + 1 - (intOf i).toNat)
  case atStart => exact ⟨0, _, _, Nat.zero_le _, rfl, hI0⟩
  case round =>
    obtain ⟨k, v, xs, hk, rfl, hI⟩ := hrel
    have HI := Lib.hid hI
    have hbs := hI.b.size
    have c0 := block_cell hI.g 0
    have c1 := block_cell hI.g 1
    obtain ⟨Av, cv, rfl, _, _⟩ := hI.n.form
    clear hI0 hI
    by_cases hlt : k < n
    · have hlt' : (k : Int) + 1 ≤ (n : Int) := by omega
      go_wp2_with fail
      go_region_law
        (first
          | (refine step_call rfl 10 #[.int .i64 ((k : Int) + 1)] (by kernel_rfl) _ (number_any _ _) ?_
             intro w2 hb2
             have d0 := cell_below hb2 c0
             have hl2 := World.block_lt_of_cell? _ _ d0
             have d1 := fun o => cell_below ((Below.refl w2.heap.size w2).alloc (Nat.le_refl _) o) d0
             have d2 := fun o o' => cell_below ((Below.refl (w2.alloc o).heap.size (w2.alloc o)).alloc (Nat.le_refl _) o') (d1 o))
          | (refine step_here rfl ?_
             refine wp_append_q _ (.tmp 14) (.tmp 21) 26 rfl w.heap.size 40 i0 (.agg #[.int .i64 0, .string .empty, .slice none 0 0]) 3 48 Tryz.underlying26 ei ez ez1 ez2 rfl (by decide) (.slice Av k cv) k xs rfl (((Own.below (w := wr.drew) HI.out.n hb2).alloc _).alloc _) (some ⟨w2.heap.size + 1, 0, none⟩) 1 1 [.int .i64 ((k : Int) + 1), .string ⟨#[97]⟩, .slice (some ⟨w2.heap.size, 0, none⟩) 1 1] rfl rfl
               (fun _ => ⟨_, rfl, fun j u hj => by rw [addr_add, Nat.zero_add, cell_new2]; simpa using hj⟩) (fun u hu => by simp at hu; rcases hu with rfl | rfl | rfl <;> rfl) (by unfold maxLen; omega) (by omega) (by have := hb2.size; simp at this ⊢; omega) ?_
             intro v7 w7 hown7 hg7 hat7
             have hg2 : w2.heap[w.heap.size + 1]? = some (.cells #[.slice Av k cv, .slice none 0 0] 29 (0, 0)) := (hb2.block _ (Array.getElem?_eq_some_iff.1 HI.out.g).1).trans HI.out.g
             have hgb : ((w2.alloc (.cells #[.string ⟨#[107]⟩, .int .i64 1, .int .i64 ((k : Int) + 1), .string .empty] 44)).alloc (.cells #[.int .i64 ((k : Int) + 1), .string ⟨#[97]⟩, .slice (some ⟨w2.heap.size, 0, none⟩) 1 1] 40)).heap[w.heap.size + 1]? = some (.cells #[.slice Av k cv, .slice none 0 0] 29 (0, 0)) := by
               have hl := (Array.getElem?_eq_some_iff.1 hg2).1
               rw [Below.heap_alloc _ _ _ (by simp; omega), Below.heap_alloc _ _ _ hl]; exact hg2
             have hoo : Own ((w2.alloc (.cells #[.string ⟨#[107]⟩, .int .i64 1, .int .i64 ((k : Int) + 1), .string .empty] 44)).alloc (.cells #[.int .i64 ((k : Int) + 1), .string ⟨#[97]⟩, .slice (some ⟨w2.heap.size, 0, none⟩) 1 1] 40)) w.heap.size 40 3 (.slice Av k cv) k xs := (((Own.below (w := wr.drew) HI.out.n hb2).alloc _).alloc _)
             have hg7b := grown_block hg7 hgb (hoo.ne_block hgb (by decide))
             have e0 := block_cell hg7b 0
             have e1 := block_free hg7b 0
             obtain ⟨A7, c7, rfl, _, _⟩ := hown7.form))
      all_goals
        have HN := Lib.hid (ManyI.step (by omega) HI.out ((Below.refl wr.heap.size wr).drew.trans hb2) hown7 hg7)
        clear hown7 hg7 hat7 hg2 hgb hoo hg7b e0 e1 d0 d1 d2 c0 c1 hb2 HI
        go_wp2_with fail
        go_roundw
        case rel => exact ⟨k + 1, _, _, by omega, by go_num, HN.out⟩
        case measure => simp [intOf]; omega
    · obtain rfl : k = n := by omega
      have hge : (k : Int) < (k : Int) + 1 := by omega
      obtain ⟨j0, ei, ez, ez1, ez2⟩ := info_parts tie_info
      clear c0 c1
      go_wp2_with fail
      go_loopw [7] (fun i wr => ∃ (m : Nat) (u : Value) (ys : List Value), m ≤ t ∧ i = .int .i64 ((m : Int) + 1) ∧ ManyI w.heap.size w wr (.slice Av k cv) u k m xs ys) (fun i _ => t + 1 - (intOf i).toNat)
      case atStart => exact ⟨0, _, _, Nat.zero_le _, rfl, HI.out⟩
      case round =>
        clear HI
        obtain ⟨m, u, ys, hm, rfl, hI⟩ := hrel
        have HI := Lib.hid hI
        have c0 := block_cell hI.g 0
        have c1 := block_cell hI.g 1
        obtain ⟨Au, cu, rfl, _, _⟩ := hI.t.form
        by_cases hlt : m < t
        · have hlt' : (m : Int) + 1 ≤ (t : Int) := by omega
          have hoW := hI.t.alloc (.cells #[.string ⟨#[112]⟩, .int .i64 ((m : Int) + 1), .int .i64 ((m : Int) + 2)] 46)
          have hlB := (Array.getElem?_eq_some_iff.1 hI.g).1
          have hgW : (wr.alloc (.cells #[.string ⟨#[112]⟩, .int .i64 ((m : Int) + 1), .int .i64 ((m : Int) + 2)] 46)).heap[w.heap.size + 1]? = some (.cells #[.slice Av k cv, .slice Au m cu] 29 (0, 0)) := by
            rw [Below.heap_alloc _ _ _ hlB]; exact hI.g
          have hi2 : (m : Int) + 1 + 1 = (m : Int) + 2 := by omega
          clear hI
          go_wp2_with (at_builtin; refine wpList_append_q _ rfl (.tmp 30) (.tmp 35) _ rfl w.heap.size 46 j0 (.agg #[.string .empty, .int .i64 0, .int .i64 0]) 3 32 Tryz.underlying27 ei ez ez1 ez2 rfl (by decide) (.slice Au m cu) m ys rfl hoW (some ⟨wr.heap.size, 0, none⟩) 1 1 [.string ⟨#[112]⟩, .int .i64 ((m : Int) + 1), .int .i64 ((m : Int) + 2)] rfl rfl (fun _ => ⟨_, rfl, fun j u hj => by rw [addr_add, Nat.zero_add, World.cell?_alloc_at _ _ _ _ rfl]; simpa using hj⟩) (fun u hu => by simp at hu; rcases hu with rfl | rfl | rfl <;> rfl) (by unfold maxLen; omega) (by omega) (by simp; omega) ?_; intro v7 w7 hown7 hg7 hat7; have hg7b := grown_block hg7 hgW (hoW.ne_block hgW (by decide)); have e0 := block_cell hg7b 1; have e1 := block_free hg7b 1; obtain ⟨A7, c7, rfl, _, _⟩ := hown7.form)
          have HN := Lib.hid (ManyI.stepT HI.out hown7 hg7)
          clear hown7 hg7 hat7 hgW hg7b e0 e1 c0 c1 hoW HI
          go_roundw
          case rel => exact ⟨m + 1, _, _, by omega, by go_num, HN.out⟩
          case measure => simp [intOf]; omega
        · obtain rfl : m = t := by omega
          have hge2 : (m : Int) < (m : Int) + 1 := by omega
          have r0 := block_cell hI.r 0
          have r1 := block_cell hI.r 1
          have f0 := block_free hI.r 0
          have f1 := block_free hI.r 1
          clear hI
          go_wp2_with fail
          have hg0 := setCell_block HI.out.r 0 (.slice Av k cv)
          have hg1 := setCell_block hg0 1 (.slice Au m cu)
          have x0 := block_cell hg1 0
          have x1 := block_cell hg1 1
          exact bodyPost_ret (v := .agg #[.slice Av k cv, .slice Au m cu]) (by simp [results, Tryz.results6, go_sem, x0, x1]) rfl ⟨_, _, _, rfl, HI.out.own (fun T hT => (Same.setCell (p := ⟨w.heap.size, 0, none⟩) HI.out.r hT _).trans (Same.setCell (p := ⟨w.heap.size, 1, none⟩) hg0 hT _)), HI.out.ends ht (fun T hT => (Same.setCell (p := ⟨w.heap.size, 0, none⟩) HI.out.r hT _).trans (Same.setCell (p := ⟨w.heap.size, 1, none⟩) hg0 hT _)),
            (HI.out.b.setCell (p := ⟨w.heap.size, 0, none⟩) (Nat.le_refl _) _).setCell (p := ⟨w.heap.size, 1, none⟩) (Nat.le_refl _) _⟩
theorem many_any (n t : Nat) (w : World) (hn : n ≤ 1000) (ht : t ≤ 1000) :
    Calls Tryz.prog 6 #[.int .i64 n, .int .i64 t] w fun e w' => ∃ v u, e = .returned (.agg #[v, u]) ∧ GrfR w' v u (manyG n t) ∧ Below w.heap.size w w' :=
  (manyO_any n t w hn ht).mono fun _ _ ⟨v, u, _, he, _, hg, hb⟩ => ⟨v, u, he, hg, hb⟩
end Go.Proofs.YtkaolglpmajeaaaGreat
