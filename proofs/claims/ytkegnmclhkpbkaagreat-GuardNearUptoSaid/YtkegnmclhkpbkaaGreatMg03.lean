/- Parts: Same, MapB, SortI, KeyS, InsC, ValA. -/
import Derived.Test.YtkegnmclhkpbkaaGreatMg02
import Derived.Test.YtkegnmclhkpbkaaGreatMg01
import Derived.Maps.Keyed
import Derived.Maps.Views
import Derived.Test.YtkegnmclhkpbkaaGreatRows
import Derived.Shelf.SortM.Plain
import Derived.Shelf.SortM.SortNone
import Derived.Ground.SlgmProg
import Derived.Shelf.SlIterI.Nil
import Derived.Ground.GgzProg
import Derived.Deep.LoopGhost
import Derived.Shelf.GgClosure.Gives
import Derived.Lib.ConvBytes
/- Plain: blocks of one element type stay as they are where only blocks of other types are written. No condition. -/
namespace Go.Proofs.YtkegnmclhkpbkaaGreat
open Go Go.RowKit

/-- All blocks of cells of type T are as they were. -/
def Same (T : TypeId) (w w' : World) : Prop := ∀ (k : Nat) c fr, w.heap[k]? = some (.cells c T fr) → w'.heap[k]? = some (.cells c T fr)
theorem Same.refl (T : TypeId) (w : World) : Same T w w := fun _ _ _ h => h
theorem Same.trans {T : TypeId} {a b c : World} (h : Same T a b) (k : Same T b c) : Same T a c := fun i x fr hx => k i x fr (h i x fr hx)
theorem Same.below {T : TypeId} {w w' : World} (hb : Below w.heap.size w w') : Same T w w' := fun k _ _ h => (hb.block k (Array.getElem?_eq_some_iff.1 h).1).trans h
theorem Same.alloc {T : TypeId} (w : World) (o : Obj) : Same T w (w.alloc o) := .below ((Below.refl _ _).alloc (Nat.le_refl _) _)
theorem Same.drewN {T : TypeId} (w : World) (n : Nat) : Same T w (w.drewN n) := fun _ _ _ h => h
theorem Same.drew {T : TypeId} (w : World) : Same T w w.drew := fun _ _ _ h => h
theorem Same.grown {T e : TypeId} {w w' : World} {B sz n : Nat} {v : Value} {xs : List Value} (ho : Own w B e sz v n xs) (hne : e ≠ T) (hg : w.grownBy w' v.ownBlock) : Same T w w' := fun k c fr h => by
  have hlt := (Array.getElem?_eq_some_iff.1 h).1
  refine (hg.block k hlt fun e' => ?_).trans h
  rcases ho.2 with ⟨rfl, _⟩ | ⟨g, o, cap, cur, rfl, _, hg2, _⟩
  · simp [Value.ownBlock] at e'
  · simp [Value.ownBlock] at e'
    subst e'
    rw [h] at hg2
    injection hg2 with hg2
    injection hg2 with _ h2 _
    exact hne h2.symm
theorem Same.setCell {T e : TypeId} {w : World} {p : Addr} {c : Array Value} {fr : Nat × Nat} (hp : w.heap[p.block]? = some (.cells c e fr)) (hne : e ≠ T) (u : Value) : Same T w (w.setCell p u) := fun k c' fr' h => by
  refine (Below.heap_setCell w p u k (fun e' => ?_)).trans h
  subst e'
  rw [h] at hp
  injection hp with hp
  injection hp with _ h2 _
  exact hne h2.symm
theorem Own.same {w w' : World} {B : Nat} {e : TypeId} {sz : Nat} {v : Value} {n : Nat} {xs : List Value} (h : Own w B e sz v n xs) (hs : Same e w w') : Own w' B e sz v n xs := by
  refine ⟨h.1, ?_⟩
  rcases h.2 with hn | ⟨g, o, cap, cur, rfl, hb, hg, rest⟩
  · exact .inl hn
  · exact .inr ⟨g, o, cap, cur, rfl, hb, hs g cur _ hg, rest⟩

/-- Nodes of which each one's record is the call's own. -/
def OwnNods (w : World) (B : Nat) : List Nod → List Value → Prop
  | [], xs => xs = []
  | d :: l, xs => ∃ u ys, xs = [.int .i64 d.id, .string d.kind, u] ++ ys ∧ I64 d.id ∧ Sm d.kind ∧ (∀ p ∈ d.props, p.ok) ∧ Own w B 45 4 u d.props.length (d.props.flatMap Prp.enc) ∧ OwnNods w B l ys
theorem OwnNods.same {w w' : World} {B : Nat} (hs : Same 45 w w') : ∀ {l : List Nod} {xs : List Value}, OwnNods w B l xs → OwnNods w' B l xs
  | [], _, h => h
  | _ :: _, _, h => by
    obtain ⟨u, ys, rfl, h1, h2, h3, h4, h5⟩ := h
    exact ⟨u, ys, rfl, h1, h2, h3, h4.same hs, h5.same hs⟩
theorem OwnNods.snoc {w : World} {B : Nat} {d : Nod} {u : Value} (h1 : I64 d.id) (h2 : Sm d.kind) (h3 : ∀ p ∈ d.props, p.ok) (h4 : Own w B 45 4 u d.props.length (d.props.flatMap Prp.enc)) :
    ∀ {l : List Nod} {xs : List Value}, OwnNods w B l xs → OwnNods w B (l ++ [d]) (xs ++ [.int .i64 d.id, .string d.kind, u])
  | [], xs, h => by rw [show xs = [] from h]; exact ⟨u, [], by simp, h1, h2, h3, h4, rfl⟩
  | e :: l, xs, h => by
    obtain ⟨v, ys, rfl, k1, k2, k3, k4, k5⟩ := h
    exact ⟨v, ys ++ [.int .i64 d.id, .string d.kind, u], by simp, k1, k2, k3, k4, k5.snoc h1 h2 h3 h4⟩
theorem OwnNods.row {w : World} {B : Nat} : ∀ {l : List Nod} {xs : List Value}, OwnNods w B l xs → Row nodL w l xs
  | [], _, h => h
  | _ :: _, _, h => by
    obtain ⟨u, ys, rfl, h1, h2, h3, h4, h5⟩ := h
    exact ⟨_, ys, rfl, ⟨u, rfl, h1, h2, h4.prps h3⟩, h5.row⟩
theorem Own.nods {w : World} {B B' : Nat} {e : TypeId} {v : Value} {l : List Nod} {xs : List Value} (h : Own w B e 3 v l.length xs) (hn : OwnNods w B' l xs) : Sl nodL w v l := Own.row (L := nodL) h hn.row
theorem own_of_block {w : World} {b B : Nat} {e : TypeId} {sz n : Nat} {cs : List Value} (h : w.heap[b]? = some (.cells cs.toArray e (0, 0))) (hB : B ≤ b) (hl : cs.length = n * sz) (hm : n ≤ maxLen) : Own w B e sz (.slice (some ⟨b, 0, none⟩) n n) n cs :=
  ⟨hl, .inr ⟨b, 0, n, cs.toArray, rfl, hB, h, Nat.le_refl _, hm, by simp [hl], by rw [List.drop_zero, ← hl]; exact List.take_length⟩⟩
theorem Own.ne_block {w : World} {B : Nat} {e e' : TypeId} {sz n k : Nat} {v : Value} {xs : List Value} {c : Array Value} {fr : Nat × Nat} (ho : Own w B e sz v n xs) (h : w.heap[k]? = some (.cells c e' fr)) (hne : e' ≠ e) : some k ≠ v.ownBlock := by
  intro e1
  rcases ho.2 with ⟨rfl, _⟩ | ⟨g, o, cap, cur, rfl, _, hg2, _⟩
  · simp [Value.ownBlock] at e1
  · simp [Value.ownBlock] at e1
    subst e1
    rw [h] at hg2
    injection hg2 with hg2
    injection hg2 with _ h2 _
    exact hne h2
theorem grown_block {w w' : World} {k : Nat} {row : Option Nat} {o : Obj} (hg : w.grownBy w' row) (h : w.heap[k]? = some o) (hne : some k ≠ row) : w'.heap[k]? = some o :=
  (hg.block k (Array.getElem?_eq_some_iff.1 h).1 hne).trans h
theorem block_cell {w : World} {k : Nat} {c : Array Value} {T : TypeId} {fr : Nat × Nat} (h : w.heap[k]? = some (.cells c T fr)) (i : Nat) : w.cell? ⟨k, i, none⟩ = c[i]? := by
  simp [World.cell?, h]
theorem block_free {w : World} {k : Nat} {c : Array Value} {T : TypeId} (h : w.heap[k]? = some (.cells c T (0, 0))) (i : Nat) : w.frozen? ⟨k, i, none⟩ = false := by
  simp [World.frozen?, h]
theorem setCell_block {w : World} {k : Nat} {c : Array Value} {T : TypeId} {fr : Nat × Nat} (h : w.heap[k]? = some (.cells c T fr)) (i : Nat) (u : Value) : (w.setCell ⟨k, i, none⟩ u).heap[k]? = some (.cells (c.setIfInBounds i u) T fr) := by
  simp [World.setCell, Array.getElem?_modify, h]
end Go.Proofs.YtkegnmclhkpbkaaGreat

/- Plain: a map from ints to bools that the call made, as a set. No condition. -/
namespace Go.Proofs.YtkegnmclhkpbkaaGreat
open Go Go.RowKit
open Go.Maps (Keyed)

def IdsIs (D : DataW Unit) (S : Int → Bool) : Prop := Maps.IsMap D ∧ ∀ n : Int, I64 n → D.atKey (.int .i64 n) (.lit (.bool false)) = .lit (.bool (S n)) ∧ Maps.has D (.int .i64 n) = S n
theorem IdsIs.empty : IdsIs (.map []) (fun _ => false) := ⟨⟨[], rfl⟩, fun _ _ => ⟨rfl, rfl⟩⟩
theorem IdsIs.put {D : DataW Unit} {S : Int → Bool} (h : IdsIs D S) {x : Int} (hk : WideAt.IsKeyLit (.int .i64 x)) : IdsIs (D.put (.int .i64 x) (.lit (.bool true))) (fun s => S s || decide (x = s)) := by
  refine ⟨h.1.put _ _, fun s hs => ?_⟩
  by_cases e : x = s
  · subst e
    rw [Maps.atKey_put_same h.1 hk, Maps.has_put_same h.1 hk]
    simp
  · have hne : (Lit.int .i64 s) ≠ .int .i64 x := fun e' => e (by injection e' with _ e'; exact e'.symm)
    rw [Maps.atKey_put_other hne, Maps.has_put_other hne, (h.2 s hs).1, (h.2 s hs).2]
    simp [e]
theorem wf_i64 {v : Int} (hv : I64 v) : (Lit.int .i64 v).wf = true := by
  obtain ⟨h1, h2⟩ := hv
  have e1 : IntKind.min .i64 = -9223372036854775808 := by decide
  have e2 : IntKind.max .i64 = 9223372036854775807 := by decide
  simp only [Lit.wf, Bool.and_eq_true, decide_eq_true_eq, e1, e2]
  exact ⟨h1, h2⟩
/-- Block b is a map of at most n entries: the set S. -/
def MapB (w : World) (b n : Nat) (S : Int → Bool) : Prop :=
  ∃ D : DataW Unit, w.ownsMap Tryz.prog 3 (plainElem Tryz.prog 4) b n D ∧ IdsIs D S
theorem zeroBoolB (w : World) : (zeroValue 4).run Tryz.prog w = .ok (.bool false) w := by kernel_rfl
theorem idsLaw : Keyed Tryz.prog 3 := Maps.int_keyed Tryz.underlying3
theorem MapB.made (w : World) : MapB (w.alloc (.map #[] 0)) w.heap.size 0 (fun _ => false) := ⟨_, World.ownsMap_made w _ _ _, IdsIs.empty⟩
theorem MapB.mono {w : World} {b n n' : Nat} {S : Int → Bool} (h : MapB w b n S) (hn : n ≤ n') : MapB w b n' S := by
  obtain ⟨D, h1, h2⟩ := h
  exact ⟨D, h1.mono hn, h2⟩
theorem MapB.kept {w w' : World} {b n : Nat} {S : Int → Bool} {row : Option Nat} (h : MapB w b n S) (hg : w.grownBy w' row) (hne : some b ≠ row) : MapB w' b n S := by
  obtain ⟨D, h1, h2⟩ := h
  exact ⟨D, h1.kept hg hne, h2⟩
theorem MapB.alloc {w : World} {b n : Nat} {S : Int → Bool} (h : MapB w b n S) (o : Obj) : MapB (w.alloc o) b n S := h.kept (World.grownBy_alloc w o none) (by simp)
theorem MapB.lt {w : World} {b n : Nat} {S : Int → Bool} (h : MapB w b n S) : b < w.heap.size := by
  obtain ⟨D, h1, _⟩ := h
  exact h1.lt
set_option maxRecDepth 100000 in
theorem MapB.look {w : World} {b n : Nat} {S : Int → Bool} (h : MapB w b n S) {x : Int} (hx : I64 x) :
    (Instr.lookup 62 (.map (some b)) (.int .i64 x) false).run Tryz.prog w = .ok (.bool (S x)) w := by
  obtain ⟨D, h1, h2⟩ := h
  obtain ⟨v, ps, hrun, hv⟩ := h1.lookup idsLaw Tryz.underlying62 (zeroBoolB w) (plainElem_bool Tryz.underlying4 false) (Maps.keyOf_int_mk Tryz.underlying3 (wf_i64 hx))
  obtain ⟨y, rfl, hy⟩ := plainElem_bool_inv Tryz.underlying4 hv
  rw [(h2.2 x hx).1] at hy
  injection hy with hy _
  injection hy with hy
  injection hy with hy
  rw [hrun, hy]
set_option maxRecDepth 100000 in
theorem MapB.put {w : World} {b n : Nat} {S : Int → Bool} (h : MapB w b n S) (hn : n < maxLen) {x : Int} (hx : I64 x) :
    ∃ w', (Instr.mapUpdate 62 (.map (some b)) (.int .i64 x) (.bool true)).run Tryz.prog w = .ok () w' ∧ MapB w' b (n + 1) (fun t => S t || decide (x = t)) ∧ w.grownBy w' (some b) := by
  obtain ⟨D, h1, h2⟩ := h
  have hkey := Maps.keyOf_int_mk Tryz.underlying3 (wf_i64 hx)
  obtain ⟨w', hrun, hm, hg⟩ := h1.update idsLaw Tryz.underlying62 hn hkey (plainElem_bool (H := Unit) Tryz.underlying4 true)
  exact ⟨w', hrun, ⟨_, hm, h2.put trivial⟩, hg⟩
theorem MapB.of_block {w w' : World} {b n : Nat} {S : Int → Bool} (h : MapB w b n S) (hb : w'.heap[b]? = w.heap[b]?) : MapB w' b n S := by
  obtain ⟨D, ⟨es, clock, h1, h2⟩, h3⟩ := h
  exact ⟨D, ⟨es, clock, hb.trans h1, h2⟩, h3⟩
theorem MapB.below {w w' : World} {b n : Nat} {S : Int → Bool} (h : MapB w b n S) (hb : Below w.heap.size w w') : MapB w' b n S := h.of_block (hb.block _ h.lt)
theorem MapB.is_map {w : World} {b n : Nat} {S : Int → Bool} (h : MapB w b n S) : ∃ es c, w.heap[b]? = some (.map es c) := by
  obtain ⟨D, ⟨es, clock, h1, _⟩, _⟩ := h
  exact ⟨es, clock, h1⟩
theorem Own.cells_of {w : World} {B : Nat} {e : TypeId} {sz n k : Nat} {v : Value} {xs : List Value} (ho : Own w B e sz v n xs) (h : v.ownBlock = some k) : ∃ c fr, w.heap[k]? = some (.cells c e fr) := by
  rcases ho.2 with ⟨rfl, _⟩ | ⟨g, o, cap, cur, rfl, _, hg, _⟩
  · simp [Value.ownBlock] at h
  · simp [Value.ownBlock] at h
    subst h
    exact ⟨_, _, hg⟩
/-- An append onto an owned row leaves the map as it is. -/
theorem MapB.grown {w w' : World} {b n m B : Nat} {S : Int → Bool} {e : TypeId} {sz : Nat} {v : Value} {xs : List Value} (h : MapB w b n S) (ho : Own w B e sz v m xs) (hg : w.grownBy w' v.ownBlock) : MapB w' b n S := by
  refine h.kept hg fun e' => ?_
  obtain ⟨es, c, h1⟩ := h.is_map
  obtain ⟨c2, fr, h2⟩ := ho.cells_of e'.symm
  rw [h1] at h2; cases h2
/-- What is put into a map leaves all cells as they are. -/
theorem MapB.same {w w' : World} {b n : Nat} {S : Int → Bool} (h : MapB w b n S) (hg : w.grownBy w' (some b)) (T : TypeId) : Same T w w' := fun k c fr hk => by
  refine (hg.block k (Array.getElem?_eq_some_iff.1 hk).1 fun e => ?_).trans hk
  injection e with e
  subst e
  obtain ⟨es, c2, h1⟩ := h.is_map
  rw [h1] at hk; cases hk
end Go.Proofs.YtkegnmclhkpbkaaGreat

/- Contract: slices.Sort at whole numbers, at a row of the call's own. No condition. -/
namespace Go.Proofs.YtkegnmclhkpbkaaGreat
open Go Go.RowKit Go.Sort Go.Proofs

-- written by sortlay.py for the seat YtkegnmclhkpbkaaGreat
def sortLay_ren : Go.Shelf.Ren := ⟨fun | 5 => 25 | 8 => 53 | 7 => 52 | 19 => 84 | 20 => 85 | 10 => 75 | 11 => 76 | 12 => 77 | 13 => 78 | 14 => 79 | 15 => 80 | 16 => 81 | 17 => 82 | 18 => 83 | 30 => 109 | 31 => 110 | 32 => 111 | 33 => 112 | 34 => 113 | 35 => 69 | 40 => 126 | n => n, fun | 23 => 37 | 25 => 3 | 3 => 3 | 32 => 113 | 22 => 37 | 0 => 0 | 44 => 150 | 46 => 152 | 4 => 4 | 36 => 143 | 35 => 142 | 41 => 72 | 5 => 5 | 9 => 9 | 53 => 179 | 57 => 183 | 63 => 196 | 64 => 197 | n => n, fun | n => n⟩
theorem sortLay : Go.Proofs.SlLaysM.n5 Tryz.prog sortLay_ren := {
  mixed := by kernel_rfl,
  f5 := ⟨Tryz.f25.name, by decide, Tryz.func25.trans (congrArg some (by kernel_rfl))⟩,
  f7 := ⟨Tryz.f52.name, by decide, Tryz.func52.trans (congrArg some (by kernel_rfl))⟩,
  f8 := Tryz.func53.trans (congrArg some (by kernel_rfl)),
  f10 := ⟨Tryz.f75.name, by decide, Tryz.func75.trans (congrArg some (by kernel_rfl))⟩,
  f11 := ⟨Tryz.f76.name, by decide, Tryz.func76.trans (congrArg some (by kernel_rfl))⟩,
  f12 := ⟨Tryz.f77.name, by decide, Tryz.func77.trans (congrArg some (by kernel_rfl))⟩,
  f13 := ⟨Tryz.f78.name, by decide, Tryz.func78.trans (congrArg some (by kernel_rfl))⟩,
  f14 := ⟨Tryz.f79.name, by decide, Tryz.func79.trans (congrArg some (by kernel_rfl))⟩,
  f15 := ⟨Tryz.f80.name, by decide, Tryz.func80.trans (congrArg some (by kernel_rfl))⟩,
  f16 := ⟨Tryz.f81.name, by decide, Tryz.func81.trans (congrArg some (by kernel_rfl))⟩,
  f17 := ⟨Tryz.f82.name, by decide, Tryz.func82.trans (congrArg some (by kernel_rfl))⟩,
  f18 := ⟨Tryz.f83.name, by decide, Tryz.func83.trans (congrArg some (by kernel_rfl))⟩,
  f19 := Tryz.func84.trans (congrArg some (by kernel_rfl)),
  f20 := Tryz.func85.trans (congrArg some (by kernel_rfl)),
  f30 := ⟨Tryz.f109.name, by decide, Tryz.func109.trans (congrArg some (by kernel_rfl))⟩,
  f31 := Tryz.func110.trans (congrArg some (by kernel_rfl)),
  f32 := Tryz.func111.trans (congrArg some (by kernel_rfl)),
  f33 := ⟨Tryz.f112.name, by decide, Tryz.func112.trans (congrArg some (by kernel_rfl))⟩,
  f34 := ⟨Tryz.f113.name, by decide, Tryz.func113.trans (congrArg some (by kernel_rfl))⟩,
  f35 := ⟨Tryz.f69.name, by decide, Tryz.func69.trans (congrArg some (by kernel_rfl))⟩,
  f40 := ⟨Tryz.f126.name, by decide, Tryz.func126.trans (congrArg some (by kernel_rfl))⟩,
  t0 := Tryz.underlying0,
  a0 := Tryz.isAgg0,
  z0 := Tryz.sizeOf0,
  v0 := Tryz.zeroValue0,
  t3 := Tryz.underlying3,
  a3 := Tryz.isAgg3,
  z3 := Tryz.sizeOf3,
  v3 := Tryz.zeroValue3,
  t4 := Tryz.underlying4,
  a4 := Tryz.isAgg4,
  z4 := Tryz.sizeOf4,
  v4 := Tryz.zeroValue4,
  t5 := Tryz.underlying5,
  a5 := Tryz.isAgg5,
  z5 := Tryz.sizeOf5,
  v5 := Tryz.zeroValue5,
  t9 := Tryz.underlying9,
  a9 := Tryz.isAgg9,
  z9 := Tryz.sizeOf9,
  v9 := Tryz.zeroValue9,
  t22 := Tryz.underlying37,
  a22 := Tryz.isAgg37,
  z22 := Tryz.sizeOf37,
  v22 := Tryz.zeroValue37,
  t23 := Tryz.underlying37,
  a23 := Tryz.isAgg37,
  z23 := Tryz.sizeOf37,
  v23 := Tryz.zeroValue37,
  t25 := Tryz.underlying3,
  a25 := Tryz.isAgg3,
  z25 := Tryz.sizeOf3,
  v25 := Tryz.zeroValue3,
  t32 := Tryz.underlying113,
  a32 := Tryz.isAgg113,
  z32 := Tryz.sizeOf113,
  v32 := Tryz.zeroValue113,
  t35 := Tryz.underlying142,
  a35 := Tryz.isAgg142,
  z35 := Tryz.sizeOf142,
  v35 := Tryz.zeroValue142,
  t36 := Tryz.underlying143,
  a36 := Tryz.isAgg143,
  z36 := Tryz.sizeOf143,
  v36 := Tryz.zeroValue143,
  t41 := Tryz.underlying72,
  a41 := Tryz.isAgg72,
  z41 := Tryz.sizeOf72,
  v41 := Tryz.zeroValue72,
  t44 := Tryz.underlying150,
  a44 := Tryz.isAgg150,
  z44 := Tryz.sizeOf150,
  v44 := Tryz.zeroValue150,
  t46 := Tryz.underlying152,
  a46 := Tryz.isAgg152,
  z46 := Tryz.sizeOf152,
  v46 := Tryz.zeroValue152,
  t53 := Tryz.underlying179,
  a53 := Tryz.isAgg179,
  z53 := Tryz.sizeOf179,
  v53 := Tryz.zeroValue179,
  t57 := Tryz.underlying183,
  a57 := Tryz.isAgg183,
  z57 := Tryz.sizeOf183,
  v57 := Tryz.zeroValue183,
  t63 := Tryz.underlying196,
  a63 := Tryz.isAgg196,
  z63 := Tryz.sizeOf196,
  v63 := Tryz.zeroValue196,
  t64 := Tryz.underlying197,
  a64 := Tryz.isAgg197,
  z64 := Tryz.sizeOf197,
  v64 := Tryz.zeroValue197 }

theorem heap_sorted_at {w : World} {g o n : Nat} {os : Array Obj} {cur : Array Value} {e : TypeId} {fr : Nat × Nat} (d : Array Int) (hb : w.heap[g]? = some (.cells cur e fr)) :
    (grow (putRow (Value.int .i64) (Sort.ahead w n) g o d) os).heap[g]? = some (.cells (putCells (Value.int .i64) o d cur) e fr) := by
  have hg : g < w.heap.size := (Array.getElem?_eq_some_iff.1 hb).1
  rw [heap_grow_old _ _ (by simpa using hg)]
  simp [putRow, mapBlock, Sort.ahead, Array.getElem?_modify, hb, onCells]
theorem grownBy_sorted_at {w : World} {g o n : Nat} {os : Array Obj} (d : Array Int) : w.grownBy (grow (putRow (Value.int .i64) (Sort.ahead w n) g o d) os) (some g) := by
  refine ⟨rfl, rfl, rfl, by simp, fun k hk hne => ?_⟩
  rw [heap_grow_old _ _ (by simpa using hk)]
  have : g ≠ k := fun e => hne (by rw [e])
  simp [putRow, mapBlock, Sort.ahead, Array.getElem?_modify, this]
theorem putCells_at (o : Nat) (cur : Array Value) (ts : List Int) (h : o + ts.length ≤ cur.size) : ((putCells (Value.int .i64) o ts.toArray cur).toList.drop o).take ts.length = ts.map (Value.int .i64) := by
  apply List.ext_getElem?
  intro j
  by_cases hj : j < ts.length
  · rw [List.getElem?_take_of_lt hj, List.getElem?_drop, Array.getElem?_toList]
    simp [putCells, hj, show o + j < cur.size by omega]
  · rw [List.getElem?_take_eq_none (by omega), List.getElem?_eq_none (by simp; omega)]
/-- Sorted, in place. -/
def sortI (l : List Int) : List Int := l.mergeSort fun x y => decide (x ≤ y)
theorem sortI_perm (l : List Int) : (sortI l).Perm l := List.mergeSort_perm _ _
theorem sortI_len (l : List Int) : (sortI l).length = l.length := (sortI_perm l).length_eq
theorem sortInts_any (l : List Int) (v : Value) (B : Nat) (w : World) (h : Own w B 3 1 v l.length (l.map (Value.int .i64))) (hl : l.length < 4611686018427387904) :
    Calls Tryz.prog 25 #[v] w fun e w' => e = .returned (.tuple #[]) ∧ Own w' B 3 1 v (sortI l).length ((sortI l).map (Value.int .i64)) ∧ w.grownBy w' v.ownBlock := by
  have hlen := sortI_len l
  have hx := h
  rcases h.2 with ⟨rfl, h0⟩ | ⟨g, o, cap, cur, rfl, hb, hg, h1, h2, h3, h4⟩
  · obtain rfl : l = [] := List.length_eq_zero_iff.1 h0
    have hc := AnyM.slices_Sort_int_none sortLay none 0 w
    change Calls Tryz.prog 25 #[.slice none 0 0] w _ at hc
    refine hc.mono ?_
    rintro e w' ⟨rfl, rfl⟩
    exact ⟨rfl, by simpa [sortI] using hx, grownBy_refl _ _⟩
  · have hH : Holds (Value.int .i64) w g o l.toArray := by
      intro j hj
      have hj' : j < l.length := by simpa using hj
      refine ⟨?_, hx.frozen rfl _⟩
      have := hx.cell rfl (j := j) (u := .int .i64 l[j]) (by simp [hj'])
      rw [this]
      simp [hj']
    have hc := AnyM.slices_Sort_int sortLay g o cap l w hH (Array.getElem?_eq_some_iff.1 hg).1 hl
    change Calls Tryz.prog 25 #[.slice (some ⟨g, o, none⟩) l.length cap] w _ at hc
    refine hc.mono ?_
    rintro e w' ⟨rfl, n, os, rfl⟩
    refine ⟨rfl, ⟨by simp, .inr ⟨g, o, cap, _, by rw [hlen], hb, heap_sorted_at _ hg, by omega, h2, ?_, ?_⟩⟩, grownBy_sorted_at _⟩
    · have : (putCells (Value.int .i64) o (sortI l).toArray cur).size = cur.size := by simp [putCells]
      show o + cap * 1 ≤ (putCells (Value.int .i64) o (sortI l).toArray cur).size
      omega
    · rw [Nat.mul_one]
      exact putCells_at o cur (sortI l) (by omega)
end Go.Proofs.YtkegnmclhkpbkaaGreat

/- Contracts: maps.Keys at a map of ints, and slices.Sorted at what it hands back: the map's keys, ascending, each once. No condition but the map's size. -/
namespace Go.Proofs.YtkegnmclhkpbkaaGreat
open Go Go.RowKit Go.Maps Go.Sort Go.Shelf Go.Proofs

-- written by keylay.py for the seat YtkegnmclhkpbkaaGreat
def keysLay_ren : Go.Shelf.Ren := ⟨fun | 7 => 14 | 10 => 26 | n => n, fun | 23 => 62 | 26 => 3 | 3 => 4 | 28 => 67 | 0 => 0 | 27 => 66 | 33 => 80 | 4 => 4 | n => n, fun | n => n⟩
theorem keysLay : Go.Proofs.SlLaysZI.n7 Tryz.prog keysLay_ren := {
  mixed := by kernel_rfl,
  f7 := ⟨Tryz.f14.name, by decide, Tryz.func14.trans (congrArg some (by kernel_rfl))⟩,
  f10 := ⟨Tryz.f26.name, by decide, Tryz.func26.trans (congrArg some (by kernel_rfl))⟩,
  t0 := Tryz.underlying0,
  a0 := Tryz.isAgg0,
  z0 := Tryz.sizeOf0,
  v0 := Tryz.zeroValue0,
  t4 := Tryz.underlying4,
  a4 := Tryz.isAgg4,
  z4 := Tryz.sizeOf4,
  v4 := Tryz.zeroValue4,
  t23 := Tryz.underlying62,
  a23 := Tryz.isAgg62,
  z23 := Tryz.sizeOf62,
  v23 := Tryz.zeroValue62,
  t26 := Tryz.underlying3,
  a26 := Tryz.isAgg3,
  z26 := Tryz.sizeOf3,
  v26 := Tryz.zeroValue3,
  t27 := Tryz.underlying66,
  a27 := Tryz.isAgg66,
  z27 := Tryz.sizeOf66,
  v27 := Tryz.zeroValue66,
  t28 := Tryz.underlying67,
  a28 := Tryz.isAgg67,
  z28 := Tryz.sizeOf67,
  v28 := Tryz.zeroValue67,
  t33 := Tryz.underlying80,
  a33 := Tryz.isAgg80,
  z33 := Tryz.sizeOf80,
  v33 := Tryz.zeroValue80 }
def keySortLay_ren : Go.Shelf.Ren := ⟨fun | 6 => 13 | 8 => 24 | 9 => 25 | 11 => 51 | 13 => 53 | 12 => 52 | 23 => 84 | 24 => 85 | 14 => 75 | 15 => 76 | 16 => 77 | 17 => 78 | 18 => 79 | 19 => 80 | 20 => 81 | 21 => 82 | 22 => 83 | 25 => 109 | 26 => 110 | 27 => 111 | 28 => 112 | 29 => 113 | 30 => 69 | 31 => 126 | n => n, fun | 26 => 3 | 28 => 67 | 24 => 37 | 0 => 0 | 3 => 3 | 37 => 113 | 48 => 150 | 50 => 152 | 4 => 4 | 40 => 143 | 39 => 142 | 45 => 72 | 5 => 5 | 9 => 9 | 51 => 179 | 55 => 183 | 57 => 196 | 58 => 197 | 33 => 80 | n => n, fun | n => n⟩
theorem keySortLay : Go.Proofs.SlLaysZI.n6 Tryz.prog keySortLay_ren := {
  mixed := by kernel_rfl,
  f6 := ⟨Tryz.f13.name, by decide, Tryz.func13.trans (congrArg some (by kernel_rfl))⟩,
  f8 := ⟨Tryz.f24.name, by decide, Tryz.func24.trans (congrArg some (by kernel_rfl))⟩,
  f11 := ⟨Tryz.f51.name, by decide, Tryz.func51.trans (congrArg some (by kernel_rfl))⟩,
  t0 := Tryz.underlying0,
  a0 := Tryz.isAgg0,
  z0 := Tryz.sizeOf0,
  v0 := Tryz.zeroValue0,
  t24 := Tryz.underlying37,
  a24 := Tryz.isAgg37,
  z24 := Tryz.sizeOf37,
  v24 := Tryz.zeroValue37,
  t26 := Tryz.underlying3,
  a26 := Tryz.isAgg3,
  z26 := Tryz.sizeOf3,
  v26 := Tryz.zeroValue3,
  t28 := Tryz.underlying67,
  a28 := Tryz.isAgg67,
  z28 := Tryz.sizeOf67,
  v28 := Tryz.zeroValue67,
  i26 := by kernel_rfl }

theorem keySorts (m : Nat) : AnyZI.SortsIn Tryz.prog keySortLay_ren Fence.wide m :=
  ⟨fun blk off cap ss W hH hblk hsz => callsIn_wide.2 (AnyM.slices_Sort_int sortLay blk off cap ss W hH hblk hsz),
   fun p cap W => callsIn_wide.2 (AnyM.slices_Sort_int_none sortLay p cap W)⟩
/-- Ascending, none twice, just those of the set. -/
def Asc (S : Int → Bool) (l : List Int) : Prop := l.Pairwise (· < ·) ∧ (∀ x ∈ l, I64 x) ∧ ∀ x, I64 x → (x ∈ l ↔ S x = true)
theorem asc_of {S : Int → Bool} {D : DataW Unit} (hS : IdsIs D S) {b n : Nat} {w : World} (hown : w.ownsMap Tryz.prog 3 (plainElem Tryz.prog 4) b n D) {ss : List Int} (hp : ss.Perm (intKeys D)) : Asc S (sortI ss) ∧ (∀ x ∈ sortI ss, I64 x) := by
  obtain ⟨es, hD, hpw, _⟩ := hown.entries idsLaw
  obtain ⟨es', hD', hko⟩ := hown.keysOf
  obtain rfl : es = es' := by rw [hD] at hD'; simpa using hD'
  have hk : ∀ p ∈ es, ∃ x, p.1 = .int .i64 x ∧ (Lit.int .i64 x).wf = true := fun p hp => by
    obtain ⟨v, hv⟩ := hko p hp
    obtain ⟨x, _, hx, hw⟩ := Maps.keyOf_i64 Tryz.underlying3 hv
    exact ⟨x, hx, hw⟩
  have hI : ∀ x, (Lit.int .i64 x).wf = true → I64 x := fun x h => by
    have e1 : IntKind.min .i64 = -9223372036854775808 := by decide
    have e2 : IntKind.max .i64 = 9223372036854775807 := by decide
    simp only [Lit.wf, Bool.and_eq_true, decide_eq_true_eq, e1, e2] at h
    exact h
  have hm : ∀ x, x ∈ sortI ss ↔ ∃ p ∈ es, p.1 = .int .i64 x := fun x => by
    rw [(sortI_perm ss).mem_iff, hp.mem_iff, hD]
    show x ∈ es.map (fun p => Go.intOf p.1) ↔ _
    rw [List.mem_map]
    constructor
    · rintro ⟨p, hp1, rfl⟩
      obtain ⟨y, hy, _⟩ := hk p hp1
      exact ⟨p, hp1, by rw [hy]; rfl⟩
    · rintro ⟨p, hp1, e⟩
      exact ⟨p, hp1, by rw [e]; rfl⟩
  have hI64 : ∀ x ∈ sortI ss, I64 x := fun x hx => by
    obtain ⟨p, hp1, e⟩ := (hm x).1 hx
    obtain ⟨y, hy, hw⟩ := hk p hp1
    rw [e] at hy
    injection hy with _ hy
    rw [hy]; exact hI _ hw
  have hnd : (sortI ss).Nodup := by
    rw [((sortI_perm ss).trans hp).nodup_iff, hD]
    show (es.map fun p => Go.intOf p.1).Nodup
    refine List.pairwise_map.2 (hpw.imp_of_mem fun {p q} hp' hq' hne e => hne ?_)
    obtain ⟨a, ha, _⟩ := hk p hp'
    obtain ⟨c, hc, _⟩ := hk q hq'
    rw [ha, hc] at e ⊢
    exact congrArg _ e
  refine ⟨⟨?_, hI64, fun x hx => ?_⟩, hI64⟩
  · have h1 : (sortI ss).Pairwise (· ≤ ·) := by
      have h := List.pairwise_mergeSort (le := fun a b : Int => decide (a ≤ b)) (fun a b c h1 h2 => by simp at *; omega) (fun a b => by simp; omega) ss
      exact h.imp fun h => of_decide_eq_true h
    exact (h1.and hnd).imp fun ⟨a, b⟩ => by omega
  · rw [hm, ← (hS.2 x hx).2, hD, Maps.has_eq, List.any_eq_true]
    constructor
    · rintro ⟨p, hp1, e⟩
      exact ⟨p, hp1, by rw [e]; simp [Lit.sameKey]⟩
    · rintro ⟨p, hp1, e⟩
      obtain ⟨y, hy, _⟩ := hk p hp1
      rw [hy] at e
      exact ⟨p, hp1, by rw [hy]; simp [Lit.sameKey] at e; rw [e]⟩
theorem keysMap_any (mb : Option Nat) (W : World) : Calls Tryz.prog 14 #[.map mb] W fun e w' => e = .returned (.func (.func 26) #[] #[.pointer (some ⟨W.heap.size, 0, none⟩)]) ∧ w' = W.alloc (.cells #[.map mb] 62) :=
  (callsIn_wide (n := 5)).1 (AnyZI.keys_in keysLay Fence.wide 5 trivial rfl mb W)
theorem sortedKeys_any (S : Int → Bool) (b n : Nat) (W : World) (h : MapB W b n S) (hn : n ≤ 1000000) :
    Calls Tryz.prog 13 #[.func (.func 26) #[] #[.pointer (some ⟨W.heap.size, 0, none⟩)]] (W.alloc (.cells #[.map (some b)] 62)) fun e w' => ∃ v l, e = .returned v ∧ Sl intL w' v l ∧ Asc S l ∧ Below W.heap.size W w' := by
  obtain ⟨D, hown, hS⟩ := h
  have hbl := hown.lt
  have hsz : Maps.size D ≤ n := hown.size_le
  have hseq : SeqGives Fence.wide 2 Tryz.prog 26 #[.pointer (some ⟨W.heap.size, 0, none⟩)] encZ (fun ss => ss.Perm (intKeys D)) (Maps.size D) (W.alloc (.cells #[.map (some b)] 62)) :=
    AnyZI.keys_gives (ρ := keysLay_ren) { keysLay with } Fence.wide _ trivial rfl (by omega) W.heap.size b n D _ (by simp) (by simp) (by
      obtain ⟨es, clock, hb, Ft, hs, hD⟩ := hown
      exact ⟨es, clock, (Below.heap_alloc _ _ b hbl).trans hb, Ft, hs, hD⟩)
  have cS := AnyZI.sorted_in keySortLay Fence.wide 5 trivial trivial trivial trivial rfl (by omega) (keySorts _) (enters_of Tryz.func25 (by kernel_rfl) rfl) 26 #[.pointer (some ⟨W.heap.size, 0, none⟩)] trivial (enters_of Tryz.func26 (by kernel_rfl) rfl) _ _ (by unfold maxLen; omega) (by omega) _ hseq
  change CallsIn _ _ Tryz.prog 13 _ _ _ at cS
  refine ((callsIn_wide (n := 5)).1 cS).mono ?_
  rintro e w' ⟨v, ss, rfl, hp, hrow, _, hb⟩
  obtain ⟨ha, hI⟩ := asc_of hS hown hp
  have hB : Below W.heap.size W w' := ((Below.refl _ W).alloc (Nat.le_refl _) _).trans (hb.mono (by simp))
  refine ⟨v, sortI ss, rfl, ?_, ha, hB⟩
  have hlen := sortI_len ss
  refine Own.ints (B := 0) (e := 3) hI ⟨by simp, ?_⟩
  rcases hrow.2 with ⟨rfl, h0⟩ | ⟨g, cap, cur, rfl, _, hg, h1, h2, h3, h4⟩
  · exact .inl ⟨rfl, by rw [hlen, h0]⟩
  · refine .inr ⟨g, 0, cap, cur, by rw [hlen], Nat.zero_le _, hg, by rw [hlen]; exact h1, h2, by rw [h3]; omega, ?_⟩
    rw [List.drop_zero, hlen]
    exact h4
end Go.Proofs.YtkegnmclhkpbkaaGreat

/- Plain laws of the model: what slices.Insert's own steps make of a slice that the call owns, where it grows and where it has room. No condition. -/
namespace Go.Proofs.YtkegnmclhkpbkaaGreat
open Go Go.RowKit

theorem cell_block {w w' : World} {b o : Nat} {v : Value} (hb : w'.heap[b]? = w.heap[b]?) (h : w.cell? ⟨b, o, none⟩ = some v) : w'.cell? ⟨b, o, none⟩ = some v := by
  unfold World.cell? at h ⊢
  dsimp only at h ⊢
  rw [hb]; exact h
theorem cells_at {w : World} {b : Nat} {cs : List Value} {e : TypeId} (h : w.heap[b]? = some (.cells cs.toArray e (0, 0))) {j : Nat} {u : Value} (hj : cs[j]? = some u) : w.cell? ⟨b, j, none⟩ = some u := by
  rw [cell_of_row w b j _ _ _ h]; simpa using hj

section
variable {P : Program} (w : World) (B : Nat) (e tS tV tI : TypeId) (i0 : TypeInfo) (z : Value) (sz bytes : Nat)
  (hS : P.underlying tS = some (.slice e)) (hI : P.underlying tI = some (.int .i64)) (ei : P.info? e = some i0) (ez : i0.zero = some z) (ez1 : i0.size = sz) (ez2 : i0.bytes = bytes) (hzs : z.cells.size = sz) (hsz : 0 < sz) (hby : bytes ≤ 4096)
  (g o n cap : Nat) (xs : List Value) (hown : Own w B e sz (.slice (some ⟨g, o, none⟩) n cap) n xs) (i : Nat) (hi : i < n) (hn : n ≤ 1000000)
  (vb : Nat) (cs : List Value) (hcl : cs.length = sz) (hcs : w.heap[vb]? = some (.cells cs.toArray e (0, 0))) (h1 : ∀ u ∈ cs, u.oneCell' = true) (hx1 : ∀ u ∈ xs, u.oneCell' = true)
include hS ei ez1 hown hi hcl hcs h1 hx1 hsz

include hI ez ez2 hzs hby hn in
theorem ins_grow (hB : B ≤ w.heap.size) (hroom : cap < n + 1) : ∃ (G : Nat) (W1 W2 : World) (W3 : Nat → World), n + 1 ≤ G ∧
    (∀ ty, (Builtin.append_ #[tS, tI] ty #[.slice (some ⟨g, o, none⟩) i cap, .int .i64 ((n : Int) + 1 - (i : Int))]).run P w = .ok (.slice (some ⟨w.heap.size, 0, none⟩) (n + 1) G) W1) ∧
    (∀ ty, (Builtin.copy_ #[tS, tV] ty #[.slice (some ⟨w.heap.size, i * sz, none⟩) (n + 1 - i) (G - i), .slice (some ⟨vb, 0, none⟩) 1 1]).run P W1 = .ok (goInt 1) W2) ∧
    (∀ k ty, (Builtin.copy_ #[tS, tS] ty #[.slice (some ⟨w.heap.size, (i + 1) * sz, none⟩) (n + 1 - (i + 1)) (G - (i + 1)), .slice (some ⟨g, o + i * sz, none⟩) (n - i) (cap - i)]).run P (W2.drewN k) = .ok (goInt ((n - i : Nat) : Int)) (W3 k)) ∧
    ∀ k, Own (W3 k) B e sz (.slice (some ⟨w.heap.size, 0, none⟩) (n + 1) G) (n + 1) (xs.take (i * sz) ++ cs ++ xs.drop (i * sz)) ∧ ∀ row, w.grownBy (W3 k) row := by
  have hlen := hown.1
  have hgl : g < w.heap.size := (hown.lt g rfl).2
  have hvl : vb < w.heap.size := (Array.getElem?_eq_some_iff.1 hcs).1
  have hiz : i * sz + sz ≤ n * sz := by have := Nat.mul_le_mul_right sz (show i + 1 ≤ n by omega); rw [Nat.add_mul, Nat.one_mul] at this; exact this
  have hkk : (n : Int) + 1 - (i : Int) = ((n + 1 - i : Nat) : Int) := by omega
  have hik : i + (n + 1 - i) = n + 1 := by omega
  have htl : (xs.take (i * sz)).length = i * sz := by rw [List.length_take, hlen]; omega
  have hG1 := grownCap_ge w (n + 1) cap e
  have hG2 := grownCap_le_maxLen w (n + 1) cap e (by unfold maxLen; omega)
  have hb2 : (n + 1) * bytes ≤ 140737488355328 := Nat.le_trans (Nat.mul_le_mul (show n + 1 ≤ 1000001 by omega) hby) (by omega)
  have hb3 : (n + 1 - i) * bytes ≤ 281474976710656 := Nat.le_trans (Nat.mul_le_mul (show n + 1 - i ≤ 1000001 by omega) hby) (by omega)
  have happ : ∀ ty, (Builtin.append_ #[tS, tI] ty #[.slice (some ⟨g, o, none⟩) i cap, .int .i64 ((n : Int) + 1 - (i : Int))]).run P w =
      .ok (.slice (some ⟨w.heap.size, 0, none⟩) (n + 1) (grownCap w (n + 1) cap e)) (w.drew.alloc (.cells ((xs.take (i * sz)).toArray ++ Builtin.zeroCells z.cells (n + 1 - i) ++ Builtin.zeroCells z.cells (grownCap w (n + 1) cap e - (n + 1))) e)) := fun ty => by
    have h := Lib.run_append_grow_zeros w tS tI ty e i0 z .i64 .i64 hS hI ei ez (some ⟨g, o, none⟩) i cap (xs.take (i * sz))
      (run_firstCells_some (P := P) w.drew i0.size i ⟨g, o, none⟩ i cap (xs.take (i * sz)) (by rw [ez1]; exact htl) (fun j u hj => by
        rw [addr_add]
        rw [List.getElem?_take] at hj
        split at hj
        · exact hown.cell rfl hj
        · cases hj)) (n + 1 - i) (by omega) (by omega) (by omega) (by omega) (by rw [ez2]; exact hb3) (by rw [ez2, hik]; exact growslice_fits hroom hb2)
    rw [hik] at h
    rw [hkk]
    exact h
  generalize grownCap w (n + 1) cap e = G at happ hG1 hG2
  obtain ⟨Z, hZ1, hZ2⟩ : ∃ Z : List Value, (xs.take (i * sz)).toArray ++ Builtin.zeroCells z.cells (n + 1 - i) ++ Builtin.zeroCells z.cells (G - (n + 1)) = (xs.take (i * sz) ++ Z).toArray ∧ Z.length = (G - i) * sz := by
    refine ⟨(Builtin.zeroCells z.cells (n + 1 - i)).toList ++ (Builtin.zeroCells z.cells (G - (n + 1))).toList, by simp, ?_⟩
    simp only [List.length_append, Array.length_toList, size_zeroCells, hzs, ← Nat.add_mul]
    congr 1; omega
  rw [hZ1] at happ
  clear hZ1
  have hZs : sz + (n - i) * sz ≤ Z.length := by
    rw [hZ2]
    have := Nat.mul_le_mul_right sz (show 1 + (n - i) ≤ G - i by omega)
    rw [Nat.add_mul, Nat.one_mul] at this; exact this
  have hGs : i * sz + Z.length = G * sz := by rw [hZ2, ← Nat.add_mul]; congr 1; omega
  have g1 : (w.drew.alloc (.cells (xs.take (i * sz) ++ Z).toArray e)).heap[w.heap.size]? = some (.cells (xs.take (i * sz) ++ Z).toArray e (0, 0)) := heap_alloc_new w.drew _
  have b1 : ∀ k, k < w.heap.size → (w.drew.alloc (.cells (xs.take (i * sz) ++ Z).toArray e)).heap[k]? = w.heap[k]? := fun k hk => Below.heap_alloc w.drew _ k hk
  have o1 : w.grownBy (w.drew.alloc (.cells (xs.take (i * sz) ++ Z).toArray e)) none := ⟨rfl, rfl, rfl, by simp, fun k hk _ => b1 k hk⟩
  generalize w.drew.alloc (.cells (xs.take (i * sz) ++ Z).toArray e) = W1 at happ g1 b1 o1
  have hcp1 : ∀ ty, (Builtin.copy_ #[tS, tV] ty #[.slice (some ⟨w.heap.size, i * sz, none⟩) (n + 1 - i) (G - i), .slice (some ⟨vb, 0, none⟩) 1 1]).run P W1 = .ok (goInt 1) (W1.setRow w.heap.size (lay (xs.take (i * sz) ++ Z) (i * sz) cs).toArray) := fun ty => by
    have := run_copy_q (P := P) W1 tS tV ty e i0 w.heap.size (i * sz) (n + 1 - i) (G - i) ⟨vb, 0, none⟩ 1 1 1 _ e cs hS ei g1 (by show min 1 (n + 1 - i) = 1; omega) (by rw [ez1]; omega) (fun j u hj => by rw [addr_add, Nat.zero_add]; exact cell_block (b1 vb hvl) (cells_at hcs hj)) (by simp [htl]; omega) h1
    simpa [lay] using this
  have g2 := setRow_heap W1 w.heap.size _ (lay (xs.take (i * sz) ++ Z) (i * sz) cs).toArray e _ g1
  have b2 : ∀ k, k < w.heap.size → (W1.setRow w.heap.size (lay (xs.take (i * sz) ++ Z) (i * sz) cs).toArray).heap[k]? = w.heap[k]? := fun k hk => (setRow_other W1 w.heap.size k _ (by omega)).trans (b1 k hk)
  have o2 : w.grownBy (W1.setRow w.heap.size (lay (xs.take (i * sz) ++ Z) (i * sz) cs).toArray) none := ⟨o1.os, o1.tape, o1.output, by have := o1.size; simpa using this, fun k hk _ => b2 k hk⟩
  have hl1 : (lay (xs.take (i * sz) ++ Z) (i * sz) cs).length = (xs.take (i * sz) ++ Z).length := lay_length (by simp [htl]; omega)
  generalize W1.setRow w.heap.size (lay (xs.take (i * sz) ++ Z) (i * sz) cs).toArray = W2 at hcp1 g2 b2 o2
  have hdl : (xs.drop (i * sz)).length = (n - i) * sz := by rw [List.length_drop, hlen, Nat.sub_mul]
  have htot : (xs.take (i * sz) ++ Z).length = G * sz := by rw [List.length_append, htl]; exact hGs
  have hsm : (i + 1) * sz + (n - i) * sz ≤ G * sz := by rw [← Nat.add_mul]; exact Nat.mul_le_mul_right _ (by omega)
  refine ⟨G, W1, W2, fun k => (W2.drewN k).setRow w.heap.size (lay (lay (xs.take (i * sz) ++ Z) (i * sz) cs) ((i + 1) * sz) (xs.drop (i * sz))).toArray, hG1, happ, hcp1, fun k ty => ?_, fun k => ⟨?_, fun row => ?_⟩⟩
  · have := run_copy_q (P := P) (W2.drewN k) tS tS ty e i0 w.heap.size ((i + 1) * sz) (n + 1 - (i + 1)) (G - (i + 1)) ⟨g, o + i * sz, none⟩ (n - i) (cap - i) (n - i) _ e (xs.drop (i * sz)) hS ei g2 (by show min (n - i) (n + 1 - (i + 1)) = n - i; omega) (by rw [ez1]; exact hdl)
      (fun j u hj => by
        rw [addr_add, Nat.add_assoc]
        rw [List.getElem?_drop] at hj
        exact cell_block (b2 g hgl) (hown.cell rfl hj)) (by simp only [List.size_toArray, hl1, htot, hdl]; exact hsm) (fun u hu => hx1 u (List.mem_of_mem_drop hu))
    simpa [lay] using this
  · have hl2 : (lay (lay (xs.take (i * sz) ++ Z) (i * sz) cs) ((i + 1) * sz) (xs.drop (i * sz))).length = G * sz := by
      rw [lay_length (by rw [hl1, htot, hdl]; exact hsm), hl1, htot]
    refine ⟨?_, .inr ⟨w.heap.size, 0, G, _, rfl, hB, setRow_heap (W2.drewN k) w.heap.size _ _ e _ g2, hG1, hG2, ?_, ?_⟩⟩
    · simp only [List.length_append, htl, hcl, hdl, Nat.add_mul, Nat.one_mul, Nat.sub_mul]; omega
    · simp only [List.size_toArray, hl2]; omega
    · have := lay_insert_new (i * sz) sz (n * sz) xs cs Z hlen hcl (by omega) (by rw [Nat.sub_mul] at hZs; omega)
      rw [List.drop_zero, show (n + 1) * sz = n * sz + sz by rw [Nat.add_mul, Nat.one_mul]]
      rw [show (i + 1) * sz = i * sz + sz by rw [Nat.add_mul, Nat.one_mul]]
      exact this
  · exact ⟨o2.os, o2.tape, o2.output, by have := o2.size; simpa using this, fun k' hk' _ => (setRow_other (W2.drewN k) w.heap.size k' _ (by omega)).trans (b2 k' hk')⟩

theorem ins_room (hgv : g ≠ vb) (hroom : n + 1 ≤ cap) : ∃ (W1 : Nat → World) (W2 : Nat → Nat → World),
    (∀ k ty, (Builtin.copy_ #[tS, tS] ty #[.slice (some ⟨g, o + (i + 1) * sz, none⟩) (n + 1 - (i + 1)) (cap - (i + 1)), .slice (some ⟨g, o + i * sz, none⟩) (n + 1 - i) (cap - i)]).run P (w.drewN k) = .ok (goInt ((n - i : Nat) : Int)) (W1 k)) ∧
    (∀ k k2 ty, (Builtin.copy_ #[tS, tV] ty #[.slice (some ⟨g, o + i * sz, none⟩) (n + 1 - i) (cap - i), .slice (some ⟨vb, 0, none⟩) 1 1]).run P ((W1 k).drewN k2) = .ok (goInt 1) (W2 k k2)) ∧
    ∀ k k2, Own (W2 k k2) B e sz (.slice (some ⟨g, o, none⟩) (n + 1) cap) (n + 1) (xs.take (i * sz) ++ cs ++ xs.drop (i * sz)) ∧ w.grownBy (W2 k k2) (some g) := by
  have hlen := hown.1
  rcases hown.2 with ⟨h0, _⟩ | ⟨g', o', cap', cur, hv, hbg, hg, hnc, hcm, hfit, htk⟩
  · cases h0
  injection hv with e1 _ e3
  injection e1 with e1
  injection e1 with e1 e2
  subst e1; subst e2; subst e3
  have hiz : i * sz + sz ≤ n * sz := by have := Nat.mul_le_mul_right sz (show i + 1 ≤ n by omega); rw [Nat.add_mul, Nat.one_mul] at this; exact this
  have hns : n * sz + sz ≤ cap * sz := by have := Nat.mul_le_mul_right sz hroom; rw [Nat.add_mul, Nat.one_mul] at this; exact this
  have hdl : (xs.drop (i * sz)).length = n * sz - i * sz := by rw [List.length_drop, hlen]
  have hi1 : (i + 1) * sz = i * sz + sz := by rw [Nat.add_mul, Nat.one_mul]
  have hcl1 : (lay cur.toList (o + i * sz + sz) (xs.drop (i * sz))).length = cur.size := by rw [lay_length (by rw [hdl, Array.length_toList]; omega), Array.length_toList]
  have g1 : ∀ k, ((w.drewN k).setRow g (lay cur.toList (o + i * sz + sz) (xs.drop (i * sz))).toArray).heap[g]? = some (.cells (lay cur.toList (o + i * sz + sz) (xs.drop (i * sz))).toArray e (0, 0)) := fun k => setRow_heap (w.drewN k) g _ _ e _ hg
  have b1 : ∀ k j, j ≠ g → ((w.drewN k).setRow g (lay cur.toList (o + i * sz + sz) (xs.drop (i * sz))).toArray).heap[j]? = w.heap[j]? := fun k j hj => setRow_other (w.drewN k) g j _ hj
  refine ⟨fun k => (w.drewN k).setRow g (lay cur.toList (o + i * sz + sz) (xs.drop (i * sz))).toArray,
    fun k k2 => (((w.drewN k).setRow g (lay cur.toList (o + i * sz + sz) (xs.drop (i * sz))).toArray).drewN k2).setRow g (lay (lay cur.toList (o + i * sz + sz) (xs.drop (i * sz))) (o + i * sz) cs).toArray, fun k ty => ?_, fun k k2 ty => ?_, fun k k2 => ⟨?_, ?_⟩⟩
  · have := run_copy_q (P := P) (w.drewN k) tS tS ty e i0 g (o + (i + 1) * sz) (n + 1 - (i + 1)) (cap - (i + 1)) ⟨g, o + i * sz, none⟩ (n + 1 - i) (cap - i) (n - i) cur e (xs.drop (i * sz)) hS ei hg (by show min (n + 1 - i) (n + 1 - (i + 1)) = n - i; omega) (by rw [ez1, hdl, Nat.sub_mul])
      (fun j u hj => by
        rw [addr_add, Nat.add_assoc]
        rw [List.getElem?_drop] at hj
        exact hown.cell rfl hj) (by rw [hdl, hi1]; omega) (fun u hu => hx1 u (List.mem_of_mem_drop hu))
    rw [hi1, ← Nat.add_assoc] at this ⊢
    exact this
  · have := run_copy_q (P := P) (((w.drewN k).setRow g (lay cur.toList (o + i * sz + sz) (xs.drop (i * sz))).toArray).drewN k2) tS tV ty e i0 g (o + i * sz) (n + 1 - i) (cap - i) ⟨vb, 0, none⟩ 1 1 1 _ e cs hS ei (g1 k) (by show min 1 (n + 1 - i) = 1; omega) (by rw [ez1]; omega)
      (fun j u hj => by rw [addr_add, Nat.zero_add]; exact cell_block (b1 k vb (Ne.symm hgv)) (cells_at hcs hj)) (by simp only [List.size_toArray, hcl1]; omega) h1
    simpa [lay] using this
  · have hl2 : (lay (lay cur.toList (o + i * sz + sz) (xs.drop (i * sz))) (o + i * sz) cs).length = cur.size := by rw [lay_length (by rw [hcl1]; omega), hcl1]
    refine ⟨?_, .inr ⟨g, o, cap, _, rfl, hbg, setRow_heap _ g _ _ e _ (g1 k), hroom, hcm, ?_, ?_⟩⟩
    · simp only [List.length_append, List.length_take, hlen, hcl, hdl, Nat.add_mul, Nat.one_mul]; omega
    · simp only [List.size_toArray, hl2]; exact hfit
    · rw [show (n + 1) * sz = n * sz + sz by rw [Nat.add_mul, Nat.one_mul]]
      exact lay_insert cur.toList o (i * sz) sz (n * sz) xs cs htk hlen hcl (by omega) (by rw [Array.length_toList]; omega)
  · exact ⟨rfl, rfl, rfl, by simp, fun j hj hjg => by
      have hj' : j ≠ g := fun e => hjg (by rw [e])
      exact (setRow_other _ g j _ hj').trans (b1 k j hj')⟩

omit h1 hx1 in
theorem ins_apart (hgv : g ≠ vb) (hroom : n + 1 ≤ cap) (tR : TypeId) (lb cb o2 : Nat) :
    (Extern.SlicesOverlaps.overlaps #[tS, tS] #[tR] #[.slice (some ⟨vb, 0, none⟩) 1 1, .slice (some ⟨g, o2, none⟩) lb cb]).run P w = .ok (.bool false) w := by
  rcases hown.2 with ⟨h0, _⟩ | ⟨g', o', cap', cur, hv, hbg, hg, hnc, hcm, hfit, htk⟩
  · cases h0
  injection hv with e1 _ e3
  injection e1 with e1
  injection e1 with e1 e2
  subst e1; subst e2; subst e3
  have hpos : 0 < cur.size := by have := Nat.mul_le_mul_right sz (show 1 ≤ cap by omega); omega
  exact Lib.run_overlaps_apart w tS tR e hS sz (fun w => by simp [sizeOf, typeInfo, ei, ez1]) ⟨vb, 0, none⟩ ⟨g, o2, none⟩ 1 1 lb cb (Ne.symm hgv) e e cs.length cur.size (by simp [World.shape?, hcs]) (by simp [World.shape?, hg]) (by omega)
    (by simp [World.frozen?, hcs]) (by simp [World.frozen?, hcs])
end
end Go.Proofs.YtkegnmclhkpbkaaGreat

/- Contracts: what value.Name, value.Check, record.prop and record.Check of the program answer, for every input that is not too long; plain functions on bytes beside them. -/
namespace Go.Proofs.YtkegnmclhkpbkaaGreat
open Go.RowKit

/-- The place of the first that meets p; -1: none does. -/
def idxI {D : Type} (p : D → Bool) (l : List D) : Int := match l.findIdx? p with | some i => i | none => -1
theorem idxI_hit {D : Type} {p : D → Bool} {l : List D} {k : Nat} {d : D} (h1 : ∀ j x, j < k → l[j]? = some x → p x = false) (h2 : l[k]? = some d) (h3 : p d = true) : idxI p l = k := by
  unfold idxI
  have : l.findIdx? p = some k := by
    rw [List.findIdx?_eq_some_iff_getElem]
    obtain ⟨hk, rfl⟩ := List.getElem?_eq_some_iff.1 h2
    exact ⟨hk, h3, fun j hj => by simp [h1 j _ hj (List.getElem?_eq_getElem (by omega))]⟩
  rw [this]
theorem idxI_miss {D : Type} {p : D → Bool} {l : List D} (h1 : ∀ j x, j < l.length → l[j]? = some x → p x = false) : idxI p l = -1 := by
  unfold idxI
  have : l.findIdx? p = none := by
    rw [List.findIdx?_eq_none_iff]
    intro x hx
    obtain ⟨j, hj, rfl⟩ := List.getElem_of_mem hx
    exact h1 j _ hj (List.getElem?_eq_getElem hj)
  rw [this]
theorem idxI_any {D : Type} (p : D → Bool) (l : List D) : decide ((0 : Int) ≤ idxI p l) = l.any p := by
  unfold idxI
  cases h : l.findIdx? p with
  | none =>
    rw [List.findIdx?_eq_none_iff] at h
    have : l.any p = false := by rw [List.any_eq_false]; intro x hx; simp [h x hx]
    rw [this]; rfl
  | some i =>
    obtain ⟨hi, hp, _⟩ := List.findIdx?_eq_some_iff_getElem.1 h
    have : l.any p = true := List.any_eq_true.2 ⟨_, List.getElem_mem hi, hp⟩
    rw [this]; simp
theorem miss_step {D : Type} {p : D → Bool} {l : List D} {k : Nat} {d : D} (h1 : ∀ j x, j < k → l[j]? = some x → p x = false) (h2 : l[k]? = some d) (h3 : p d = false) : ∀ j x, j < k + 1 → l[j]? = some x → p x = false := by
  intro j x hj hx
  by_cases e : j = k
  · subst e
    have := h2.symm.trans hx
    cases this
    exact h3
  · exact h1 j x (by omega) hx

/-- What is asked of a function value: on each element, in every later world, it answers p and leaves what there was. -/
def PredB {D : Type} (P : Program) (g : Nat) (caps : Array Value) (V : World → D → Value → Prop) (p : D → Bool) (w : World) : Prop :=
  ∀ x u wx, Below w.heap.size w wx → V wx x u → Calls P g (#[u] ++ caps) wx (fun e w' => e = .returned (.bool (p x)) ∧ Below wx.heap.size wx w')

set_option maxHeartbeats 400000 in
theorem idx_byte (g : Nat) (caps : Array Value) (eg : ∀ args w, (callFunc g args).run Tryz.prog w = .ok (.enter g args) w) (p : UInt8 → Bool) (l : List UInt8) (v : Value) (w : World) (hv : Sl byteL w v l)
    (hp : PredB Tryz.prog g caps (fun _ x u => u = .int .u8 x.toNat) p w) :
    Calls Tryz.prog 114 #[v, .func (.func g) #[] caps] w fun e w' => e = .returned (.int .i64 (idxI p l)) ∧ Below w.heap.size w w' := by
  obtain ⟨A, c, rfl, hlc, hcm⟩ := hv.form
  unfold maxLen at hcm
  go_enter Tryz.func114, Tryz.ntmps114
  go_wp2_with fail
  go_loopw [8] (fun i wr => ∃ k : Nat, k ≤ l.length ∧ i = .int .i64 k ∧ Below w.heap.size w wr ∧ Hid (∀ j x, j < k → l[j]? = some x → p x = false)) (fun i _ => l.length - (intOf i).toNat)
  case atStart => exact ⟨0, Nat.zero_le _, rfl, Below.refl _ _, fun j x hj => absurd hj (Nat.not_lt_zero _)⟩
  case round =>
    obtain ⟨k, hk, rfl, hb, HA⟩ := hrel
    by_cases hlt : k < l.length
    · obtain ⟨d, hd⟩ : ∃ d, l[k]? = some d := ⟨_, List.getElem?_eq_getElem hlt⟩
      obtain ⟨b, o, rfl, hcell⟩ := byte_at (hv.below hb) hd
      have HD : Hid (l[k]? = some d) := hd
      clear hd
      have hcall := hp d _ wr hb rfl
      clear hp hv
      cases hq : p d with
      | true =>
        rw [hq] at hcall
        have HQ : Hid (p d = true) := hq
        clear hq
        go_wp2_with (go_at_fn g; refine hcall.mono ?_; rintro e w' ⟨rfl, hb2⟩)
        go_ret
        exact ⟨ret_int (idxI_hit HA.out HD.out HQ.out).symm, hb.trans (hb2.mono hb.size)⟩
      | false =>
        rw [hq] at hcall
        have HQ : Hid (p d = false) := hq
        clear hq
        go_wp2_with (go_at_fn g; refine hcall.mono ?_; rintro e w' ⟨rfl, hb2⟩)
        go_roundw
        case rel => exact ⟨k + 1, by omega, by go_num, hb.trans (hb2.mono hb.size), miss_step HA.out HD.out HQ.out⟩
        case measure => simp [intOf]; omega
    · have hkl : k = l.length := by omega
      subst hkl
      go_wp2_with fail
      go_ret
      exact ⟨ret_int (idxI_miss HA.out).symm, hb⟩

theorem has_byte (g : Nat) (caps : Array Value) (eg : ∀ args w, (callFunc g args).run Tryz.prog w = .ok (.enter g args) w) (p : UInt8 → Bool) (l : List UInt8) (v : Value) (w : World) (hv : Sl byteL w v l)
    (hp : PredB Tryz.prog g caps (fun _ x u => u = .int .u8 x.toNat) p w) :
    Calls Tryz.prog 86 #[v, .func (.func g) #[] caps] w fun e w' => e = .returned (.bool (l.any p)) ∧ Below w.heap.size w w' := by
  have h1 := idx_byte g caps eg p l v w hv hp
  have h2 := idxI_any p l
  have H2 := Lib.hid h2
  clear h2 hv hp eg
  go_enter Tryz.func86, Tryz.ntmps86
  go_wp2_with (go_at_call 114; refine h1.mono ?_; rintro e w' ⟨rfl, hb⟩)
  go_ret
  exact ⟨ret_bool H2.out, hb⟩

/-- '[]byte(s)': a new row that reads as the text's bytes. -/
theorem bytes_sl (w : World) (s : ByteArray) (hs : Sm s) : Sl byteL (Lib.bytesWorld w 5 s) (.slice (some ⟨w.heap.size, 0, none⟩) s.size (grownCap w s.size 0 5)) s.data.toList ∧ Below w.heap.size w (Lib.bytesWorld w 5 s) := by
  have e : s.data.toList.length = s.size := by rw [Array.length_toList]; rfl
  refine ⟨⟨some ⟨w.heap.size, 0, none⟩, grownCap w s.size 0 5, by rw [e], by rw [e]; exact grownCap_ge _ _ _ _, ?_, ?_⟩, ⟨rfl, rfl, rfl, by rw [Lib.bytesWorld_size]; omega, fun k hk => Lib.bytesWorld_at_old w 5 s k hk⟩⟩
  · exact grownCap_le_maxLen _ _ _ _ (by unfold Sm at hs; unfold maxLen; omega)
  · intro i d hi
    refine ⟨_, _, _, rfl, ⟨rfl, trivial⟩, fun j u hj => ?_⟩
    have hlt : i < s.size := by rw [← e]; exact (List.getElem?_eq_some_iff.1 hi).1
    match j, hj with
    | 0, hj =>
      simp at hj
      subst hj
      have := Lib.bytesWorld_cell w 5 s i hlt
      simpa [byteL, flatL, List.getD, hi] using this

/-! ### value.Name -/
def nameC (c : UInt8) : Bool := decide ((c.toNat : Int) < 97) || decide (122 < (c.toNat : Int))
def nameE (s : ByteArray) : Int := if s.toList.isEmpty then 2 else if 8 < s.size then 2 else if s.data.toList.any nameC then 2 else 0
theorem name1 (c : UInt8) (w : World) :
    Calls Tryz.prog 87 #[.int .u8 c.toNat] w fun e w' => e = .returned (.bool (nameC c)) ∧ w = w' := by
  unfold nameC
  go_enter Tryz.func87, Tryz.ntmps87
  go_wp2
  all_goals go_ret
  all_goals exact ⟨rfl, rfl⟩
theorem name_any (s : ByteArray) (w : World) (hs : Sm s) :
    Calls Tryz.prog 54 #[.string s] w fun e w' => e = .returned (errV (nameE s)) ∧ Below w.heap.size w w' := by
  have hcv := fun wx => Lib.run_convert_string_bytes (P := Tryz.prog) wx 9 154 5 s Tryz.underlying9 Tryz.underlying154 Tryz.underlying5
  obtain ⟨hsl, hb⟩ := bytes_sl w s hs
  have hcall := has_byte 87 #[] (by intro args w; kernel_rfl) nameC s.data.toList _ _ hsl (fun x u wx _ hu => by subst hu; exact (name1 x wx).mono fun e w' ⟨h1, h2⟩ => ⟨h1, h2 ▸ Below.refl _ _⟩)
  have HF : Hid (nameE s = if s.toList.isEmpty then 2 else if 8 < s.size then 2 else if s.data.toList.any nameC then 2 else 0) := rfl
  clear hsl
  have hs' : s.size ≤ 1048576 := hs
  clear hs
  by_cases h0 : s.toList.isEmpty = true
  · have HE : Hid (errV (nameE s) = .iface 69 (.int .i64 2)) := by rw [HF.out, if_pos h0]; rfl
    clear hcall
    go_enter Tryz.func54, Tryz.ntmps54
    go_wp2_with fail
    go_ret
    exact ⟨by rw [HE.out]; rfl, Below.refl _ _⟩
  · have h0' : s.toList.isEmpty = false := by simpa using h0
    by_cases h8 : 8 < s.size
    · have HE : Hid (errV (nameE s) = .iface 69 (.int .i64 2)) := by rw [HF.out, if_neg h0, if_pos h8]; rfl
      have h8' : (8 : Int) < (s.size : Int) := by omega
      clear hcall h0
      go_enter Tryz.func54, Tryz.ntmps54
      go_wp2_with fail
      go_ret
      exact ⟨by rw [HE.out]; rfl, Below.refl _ _⟩
    · have h8' : decide ((8 : Int) < (s.size : Int)) = false := by simp; omega
      have h8'' : (s.size : Int) ≤ 8 := by omega
      clear h0
      cases hq : s.data.toList.any nameC with
      | true =>
        have HE : Hid (errV (nameE s) = .iface 69 (.int .i64 2)) := by rw [HF.out, h0', if_neg (by simp), if_neg h8, hq]; rfl
        rw [hq] at hcall
        clear hq
        go_enter Tryz.func54, Tryz.ntmps54
        go_wp2_with (go_at_call 86; refine hcall.mono ?_; rintro e w' ⟨rfl, hb2⟩)
        go_ret
        exact ⟨by rw [HE.out]; rfl, hb.trans (hb2.mono hb.size)⟩
      | false =>
        have HE : Hid (errV (nameE s) = .nilIface) := by rw [HF.out, h0', if_neg (by simp), if_neg h8, hq]; rfl
        rw [hq] at hcall
        clear hq
        go_enter Tryz.func54, Tryz.ntmps54
        go_wp2_with (go_at_call 86; refine hcall.mono ?_; rintro e w' ⟨rfl, hb2⟩)
        go_ret
        exact ⟨by rw [HE.out]; rfl, hb.trans (hb2.mono hb.size)⟩
end Go.Proofs.YtkegnmclhkpbkaaGreat
