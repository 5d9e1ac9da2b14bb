/- Parts: Simp, Many, GdP, DlAll. -/
import Derived.Test.YtkegnmclhkpbkaaGreatMg16
import Derived.Test.YtkegnmclhkpbkaaGreatMg18
import Derived.Test.YtkegnmclhkpbkaaGreatMg03
import Derived.Test.YtkegnmclhkpbkaaGreatMg05
import Derived.Test.YtkegnmclhkpbkaaGreatMg08
import Derived.Test.YtkegnmclhkpbkaaGreatMg11
/- Contract: kinlaw4.simple. No condition. -/
namespace Go.Proofs.YtkegnmclhkpbkaaGreat
open Go Go.RowKit

def simpS (mx : Int) : Scm := ⟨[⟨⟨#[97]⟩, [], [⟨⟨#[107]⟩, 1, true, true⟩]⟩], [⟨⟨#[112]⟩, ⟨#[97]⟩, ⟨#[97]⟩, 0, mx⟩]⟩
/-- The blocks of the simple schema. -/
theorem simp_read {W : World} {mx : Int} {f k p : Nat} (hmx : I64 mx) (h1 : W.heap[f]? = some (.cells #[.string ⟨#[107]⟩, .int .i64 1, .bool true, .bool true] 135 (0, 0)))
    (h2 : W.heap[k]? = some (.cells #[.string ⟨#[97]⟩, .slice none 0 0, .slice (some ⟨f, 0, none⟩) 1 1] 177 (0, 0)))
    (h3 : W.heap[p]? = some (.cells #[.string ⟨#[112]⟩, .string ⟨#[97]⟩, .string ⟨#[97]⟩, .int .i64 0, .int .i64 mx] 109 (0, 0))) :
    ScmR W (.slice (some ⟨k, 0, none⟩) 1 1) (.slice (some ⟨p, 0, none⟩) 1 1) (simpS mx) := by
  have hm : Sm ⟨#[97]⟩ ∧ Sm ⟨#[107]⟩ ∧ Sm ⟨#[112]⟩ := ⟨by show 1 ≤ 1048576; omega, by show 1 ≤ 1048576; omega, by show 1 ≤ 1048576; omega⟩
  have hf : Sl fldL W (.slice (some ⟨f, 0, none⟩) 1 1) [⟨⟨#[107]⟩, 1, true, true⟩] := sl_block (t := 135) (fr := (0, 0)) Fld.enc_len [⟨⟨#[107]⟩, 1, true, true⟩] (fun x hx => by simp at hx; subst hx; exact ⟨hm.2.1, by show I64 (1 : Int); unfold I64; omega⟩) 1 (by simp) (by simp [maxLen]) h1
  constructor
  · refine ⟨_, 1, rfl, Nat.le_refl _, by simp [maxLen], fun i d hi => ?_⟩
    match i, hi with
    | 0, hi =>
      injection hi with e; subst e
      refine ⟨_, 0, [.string ⟨#[97]⟩, .slice none 0 0, .slice (some ⟨f, 0, none⟩) 1 1], rfl, ⟨_, _, rfl, hm.1, Sl.nil 0 (Nat.zero_le _) none, hf⟩, fun j u hj => ?_⟩
      rw [block_cell h2]
      simpa using hj
    | i + 1, hi => simp [simpS] at hi
  · exact sl_block (t := 109) (fr := (0, 0)) Bnd.enc_len [⟨⟨#[112]⟩, ⟨#[97]⟩, ⟨#[97]⟩, 0, mx⟩] (fun x hx => by simp at hx; subst hx; exact ⟨hm.2.2, hm.1, hm.1, by show I64 (0 : Int); unfold I64; omega, hmx⟩) 1 (by simp) (by simp [maxLen]) h3
end Go.Proofs.YtkegnmclhkpbkaaGreat

/- Contracts: kinlaw4.number, kinlaw4.many: so many nodes in a row. -/
namespace Go.Proofs.YtkegnmclhkpbkaaGreat
open Go Go.RowKit

def manyNod (i : Nat) : Nod := ⟨(i : Int) + 1, ⟨#[97]⟩, [⟨⟨#[107]⟩, ⟨1, (i : Int) + 1, .empty⟩⟩]⟩
def manyTie (i : Nat) : Tie := ⟨⟨#[112]⟩, (i : Int) + 1, (i : Int) + 2⟩
def manyG (n t : Nat) : Grf := ⟨(List.range n).map manyNod, (List.range t).map manyTie⟩
theorem nod_info : (Tryz.prog.info? 34).map (fun i => (i.zero, i.size, i.bytes)) = some (some (.agg #[.int .i64 0, .string .empty, .slice none 0 0]), 3, 48) := by kernel_rfl
theorem tie_info : (Tryz.prog.info? 36).map (fun i => (i.zero, i.size, i.bytes)) = some (some (.agg #[.string .empty, .int .i64 0, .int .i64 0]), 3, 32) := by kernel_rfl
theorem many_snoc (k : Nat) : (List.range (k + 1)).map manyNod = (List.range k).map manyNod ++ [manyNod k] := by rw [List.range_succ, List.map_append]; rfl
theorem many_tsnoc (k : Nat) : (List.range (k + 1)).map manyTie = (List.range k).map manyTie ++ [manyTie k] := by rw [List.range_succ, List.map_append]; rfl

theorem cell_new2 {W : World} {o : Obj} {cs : Array Value} {T : TypeId} {j : Nat} : ((W.alloc o).alloc (.cells cs T)).cell? ⟨W.heap.size + 1, j, none⟩ = cs[j]? := by rw [World.cell?_alloc_at _ _ _ _ (by simp)]
/-- What stands between two rounds. -/
structure ManyI (B : Nat) (w wr : World) (v u : Value) (k m : Nat) (xs ys : List Value) : Prop where
  b : Below B w wr
  r : wr.heap[B]? = some (.cells #[.slice none 0 0, .slice none 0 0] 29 (0, 0))
  g : wr.heap[B + 1]? = some (.cells #[v, u] 29 (0, 0))
  n : Own wr B 34 3 v k xs
  o : OwnNods wr B ((List.range k).map manyNod) xs
  t : Own wr B 36 3 u m ys
  f : ys = ((List.range m).map manyTie).flatMap Tie.enc

theorem ManyI.step {B : Nat} {w wr w2 w7 : World} {v u v7 : Value} {k m : Nat} {xs ys : List Value} (hk : k < 1000) (hI : ManyI B w wr v u k m xs ys) (hb2 : Below wr.heap.size wr w2)
    (hown7 : Own w7 B 34 3 v7 (k + 1) (xs ++ [.int .i64 ((k : Int) + 1), .string ⟨#[97]⟩, .slice (some ⟨w2.heap.size, 0, none⟩) 1 1]))
    (hg7 : ((w2.alloc (.cells #[.string ⟨#[107]⟩, .int .i64 1, .int .i64 ((k : Int) + 1), .string .empty] 45)).alloc (.cells #[.int .i64 ((k : Int) + 1), .string ⟨#[97]⟩, .slice (some ⟨w2.heap.size, 0, none⟩) 1 1] 34)).grownBy w7 v.ownBlock) :
    ManyI B w (w7.setCell ⟨B + 1, 0, none⟩ v7) v7 u (k + 1) m (xs ++ [.int .i64 ((k : Int) + 1), .string ⟨#[97]⟩, .slice (some ⟨w2.heap.size, 0, none⟩) 1 1]) ys := by
  have hbw := hI.b.size
  have hw2 := hb2.size
  have hlB := (Array.getElem?_eq_some_iff.1 hI.g).1
  have up : ∀ (j : Nat) (o : Obj), wr.heap[j]? = some o → ((w2.alloc (.cells #[.string ⟨#[107]⟩, .int .i64 1, .int .i64 ((k : Int) + 1), .string .empty] 45)).alloc (.cells #[.int .i64 ((k : Int) + 1), .string ⟨#[97]⟩, .slice (some ⟨w2.heap.size, 0, none⟩) 1 1] 34)).heap[j]? = some o := fun j o h => by
    have hl := (Array.getElem?_eq_some_iff.1 h).1
    rw [Below.heap_alloc _ _ _ (by simp; omega), Below.heap_alloc _ _ _ (by omega)]
    exact (hb2.block j hl).trans h
  have hoW : Own ((w2.alloc (.cells #[.string ⟨#[107]⟩, .int .i64 1, .int .i64 ((k : Int) + 1), .string .empty] 45)).alloc (.cells #[.int .i64 ((k : Int) + 1), .string ⟨#[97]⟩, .slice (some ⟨w2.heap.size, 0, none⟩) 1 1] 34)) B 34 3 v k xs := ((hI.n.below hb2).alloc _).alloc _
  have hgW := up _ _ hI.g
  have hg7g := grown_block hg7 hgW (hoW.ne_block hgW (by decide))
  have hrW := up _ _ hI.r
  have hr7 := grown_block hg7 hrW (hoW.ne_block hrW (by decide))
  have hsame : ∀ T, 34 ≠ T → 29 ≠ T → Same T ((w2.alloc (.cells #[.string ⟨#[107]⟩, .int .i64 1, .int .i64 ((k : Int) + 1), .string .empty] 45)).alloc (.cells #[.int .i64 ((k : Int) + 1), .string ⟨#[97]⟩, .slice (some ⟨w2.heap.size, 0, none⟩) 1 1] 34)) (w7.setCell ⟨B + 1, 0, none⟩ v7) := fun T h1 h2 =>
    (Same.grown hoW h1 hg7).trans (Same.setCell (p := ⟨B + 1, 0, none⟩) hg7g h2 v7)
  have hfull : ∀ T, 34 ≠ T → 29 ≠ T → Same T wr (w7.setCell ⟨B + 1, 0, none⟩ v7) := fun T h1 h2 => (Same.below hb2).trans ((Same.alloc _ _).trans ((Same.alloc _ _).trans (hsame T h1 h2)))
  have hpb : ((w2.alloc (.cells #[.string ⟨#[107]⟩, .int .i64 1, .int .i64 ((k : Int) + 1), .string .empty] 45)).alloc (.cells #[.int .i64 ((k : Int) + 1), .string ⟨#[97]⟩, .slice (some ⟨w2.heap.size, 0, none⟩) 1 1] 34)).heap[w2.heap.size]? = some (.cells #[.string ⟨#[107]⟩, .int .i64 1, .int .i64 ((k : Int) + 1), .string .empty] 45 (0, 0)) := by
    rw [Below.heap_alloc _ _ _ (by simp)]; exact heap_alloc_new _ _
  have hop : Own ((w2.alloc (.cells #[.string ⟨#[107]⟩, .int .i64 1, .int .i64 ((k : Int) + 1), .string .empty] 45)).alloc (.cells #[.int .i64 ((k : Int) + 1), .string ⟨#[97]⟩, .slice (some ⟨w2.heap.size, 0, none⟩) 1 1] 34)) B 45 4 (.slice (some ⟨w2.heap.size, 0, none⟩) 1 1) 1 [.string ⟨#[107]⟩, .int .i64 1, .int .i64 ((k : Int) + 1), .string .empty] :=
    own_of_block hpb (by omega) rfl (by simp [maxLen])
  refine ⟨?_, ?_, ?_, ?_, ?_, ?_, hI.f⟩
  · have h1 : Below B w w2 := hI.b.trans (hb2.mono (by omega))
    have h2 := ((h1.alloc (by omega) (.cells #[.string ⟨#[107]⟩, .int .i64 1, .int .i64 ((k : Int) + 1), .string .empty] 45)).alloc (by simp; omega) (.cells #[.int .i64 ((k : Int) + 1), .string ⟨#[97]⟩, .slice (some ⟨w2.heap.size, 0, none⟩) 1 1] 34))
    exact (h2.grown hg7 (by simp; omega) (fun j e => (hoW.lt j e).1)).setCell (p := ⟨B + 1, 0, none⟩) (by simp) v7
  · rw [Below.heap_setCell _ _ _ _ (by simp)]; exact hr7
  · exact setCell_block hg7g 0 v7
  · exact hown7.setCell _ _ (fun e => (hown7.ne_block hg7g (by decide)) e.symm)
  · rw [many_snoc]
    exact (hI.o.same (hfull _ (by decide) (by decide))).snoc (d := manyNod k) (by show I64 ((k : Int) + 1); unfold I64; omega) (by show 1 ≤ 1048576; omega)
      (fun p hp => by simp [manyNod] at hp; subst hp; exact ⟨by show 1 ≤ 1048576; omega, by show I64 (1 : Int); unfold I64; omega, by show I64 ((k : Int) + 1); unfold I64; omega, by show 0 ≤ 1048576; omega⟩) (hop.same (hsame _ (by decide) (by decide)))
  · exact hI.t.same (hfull _ (by decide) (by decide))

theorem ManyI.stepT {B : Nat} {w wr w7 : World} {v u u7 : Value} {k m : Nat} {xs ys : List Value} (hI : ManyI B w wr v u k m xs ys)
    (hown7 : Own w7 B 36 3 u7 (m + 1) (ys ++ [.string ⟨#[112]⟩, .int .i64 ((m : Int) + 1), .int .i64 ((m : Int) + 2)]))
    (hg7 : (wr.alloc (.cells #[.string ⟨#[112]⟩, .int .i64 ((m : Int) + 1), .int .i64 ((m : Int) + 2)] 36)).grownBy w7 u.ownBlock) :
    ManyI B w (w7.setCell ⟨B + 1, 1, none⟩ u7) v u7 k (m + 1) xs (ys ++ [.string ⟨#[112]⟩, .int .i64 ((m : Int) + 1), .int .i64 ((m : Int) + 2)]) := by
  have hlB := (Array.getElem?_eq_some_iff.1 hI.g).1
  have up : ∀ (j : Nat) (o : Obj), wr.heap[j]? = some o → (wr.alloc (.cells #[.string ⟨#[112]⟩, .int .i64 ((m : Int) + 1), .int .i64 ((m : Int) + 2)] 36)).heap[j]? = some o := fun j o h => by
    rw [Below.heap_alloc _ _ _ (Array.getElem?_eq_some_iff.1 h).1]; exact h
  have hoW := hI.t.alloc (.cells #[.string ⟨#[112]⟩, .int .i64 ((m : Int) + 1), .int .i64 ((m : Int) + 2)] 36)
  have hgW := up _ _ hI.g
  have hg7g := grown_block hg7 hgW (hoW.ne_block hgW (by decide))
  have hrW := up _ _ hI.r
  have hr7 := grown_block hg7 hrW (hoW.ne_block hrW (by decide))
  have hfull : ∀ T, 36 ≠ T → 29 ≠ T → Same T wr (w7.setCell ⟨B + 1, 1, none⟩ u7) := fun T h1 h2 => (Same.alloc _ _).trans ((Same.grown hoW h1 hg7).trans (Same.setCell (p := ⟨B + 1, 1, none⟩) hg7g h2 u7))
  refine ⟨?_, ?_, ?_, ?_, ?_, ?_, ?_⟩
  · exact ((hI.b.alloc (by omega) _).grown hg7 (by simp; omega) (fun j e => (hoW.lt j e).1)).setCell (p := ⟨B + 1, 1, none⟩) (by simp) u7
  · rw [Below.heap_setCell _ _ _ _ (by simp)]; exact hr7
  · exact setCell_block hg7g 1 u7
  · exact hI.n.same (hfull _ (by decide) (by decide))
  · exact hI.o.same (hfull _ (by decide) (by decide))
  · exact hown7.setCell _ _ (fun e => (hown7.ne_block hg7g (by decide)) e.symm)
  · rw [many_tsnoc, List.flatMap_append, ← hI.f]; rfl
theorem ManyI.ends {B : Nat} {w wr wF : World} {v u : Value} {k m : Nat} {xs ys : List Value} (hm : m ≤ 1000) (hI : ManyI B w wr v u k m xs ys) (hs : ∀ T, 29 ≠ T → Same T wr wF) : GrfR wF v u (manyG k m) := by
  have h1 := hI.n.same (hs _ (by decide))
  have h2 := hI.o.same (hs _ (by decide))
  have h3 := hI.t.same (hs _ (by decide))
  rw [hI.f] at h3
  have hn : k = (manyG k m).nodes.length := by simp [manyG]
  have ht : m = (manyG k m).ties.length := by simp [manyG]
  refine ⟨Own.nods (by rw [← hn]; exact h1) h2, Own.ties (by rw [← ht]; exact h3) fun x hx => ?_⟩
  simp only [manyG, List.mem_map, List.mem_range] at hx
  obtain ⟨j, hj, rfl⟩ := hx
  exact ⟨by show 1 ≤ 1048576; omega, by show I64 ((j : Int) + 1); unfold I64; omega, by show I64 ((j : Int) + 2); unfold I64; omega⟩

/-- The row is the call's own. -/
structure ManyO (B : Nat) (wF : World) (v u : Value) (k m : Nat) (xs : List Value) : Prop where
  n : Own wF B 34 3 v k xs
  o : OwnNods wF B ((List.range k).map manyNod) xs
  t : Own wF B 36 3 u m (((List.range m).map manyTie).flatMap Tie.enc)
theorem ManyI.own {B : Nat} {w wr wF : World} {v u : Value} {k m : Nat} {xs ys : List Value} (hI : ManyI B w wr v u k m xs ys) (hs : ∀ T, 29 ≠ T → Same T wr wF) : ManyO B wF v u k m xs := by
  have h3 := hI.t.same (hs _ (by decide))
  rw [hI.f] at h3
  exact ⟨hI.n.same (hs _ (by decide)), hI.o.same (hs _ (by decide)), h3⟩
end Go.Proofs.YtkegnmclhkpbkaaGreat

/- Plain: ops that are asked ahead, and done: what the guard tells. No condition. -/
namespace Go.Proofs.YtkegnmclhkpbkaaGreat
open Go

/-- What delta.All answers. -/
def dallE (g : Grf) (l : List Opr) : Int := if 40 < l.length then 4 else if grfE g = 0 then allE g l else grfE g
def dallG (g : Grf) (l : List Opr) : Grf := if dallE g l = 0 then allG g l else ⟨[], []⟩
/-- Which op is wrong. -/
def allI (g : Grf) : List Opr → Nat
  | [] => 0
  | o :: r => if opE g o = 0 then allI (opG g o) r + 1 else 0
def dallI (g : Grf) (l : List Opr) : Nat := if 40 < l.length then 0 else if grfE g = 0 then (if allE g l = 0 then 0 else allI g l) else 0
/-- What guard.Check answers; what guard.May does. -/
def gckE (s : Scm) (g : Grf) (l : List Opr) : Int := if readySG s g = 0 then (if (ofF s g).length = 0 then dallE g l else 6) else readySG s g
def gckR (s : Scm) (g : Grf) (l : List Opr) : List Flt := if gckE s g l = 0 then ofF s (dallG g l) else []
def mayR (s : Scm) (g : Grf) (l : List Opr) : Bool := decide (gckE s g l = 0) && decide ((gckR s g l).length = 0)
theorem dall_zero {g : Grf} {l : List Opr} (h : dallE g l = 0) : l.length ≤ 40 ∧ grfE g = 0 ∧ allE g l = 0 ∧ dallG g l = allG g l ∧ grfE (dallG g l) = 0 := by
  have h0 := h
  unfold dallE at h
  split at h
  · cases h
  · split at h
    · rename_i h1 h2
      have e : dallG g l = allG g l := by unfold dallG; rw [if_pos h0]
      exact ⟨by omega, h2, h, e, by rw [e]; exact all_right h2 h⟩
    · rename_i h2; exact absurd h h2
theorem gck_zero {s : Scm} {g : Grf} {l : List Opr} (h : gckE s g l = 0) : readySG s g = 0 ∧ (ofF s g).length = 0 ∧ dallE g l = 0 := by
  unfold gckE at h
  split at h
  · rename_i h1
    split at h
    · rename_i h2; exact ⟨h1, h2, h⟩
    · cases h
  · rename_i h1; exact absurd h h1
theorem guard_same {s : Scm} {g : Grf} {l : List Opr} (h : gckE s g l = 0) : dallE g l = 0 ∧ readySG s (dallG g l) = 0 ∧ confR s (dallG g l) = mayR s g l := by
  obtain ⟨h1, _, h3⟩ := gck_zero h
  obtain ⟨h4, _⟩ := readySG_zero h1
  have h5 : readySG s (dallG g l) = 0 := by unfold readySG; rw [if_pos h4]; exact (dall_zero h3).2.2.2.2
  refine ⟨h3, h5, ?_⟩
  unfold confR mayR faultsR gckR
  simp [h5, h]
def gone2 : Opr := ⟨2, ⟨2, .empty, []⟩, ⟨.empty, ⟨0, 0, .empty⟩⟩, ⟨.empty, 0, 0⟩⟩
theorem guard_fact : gckE (simpS (-1)) (manyG 2 1) [gone2] = 0 ∧ mayR (simpS (-1)) (manyG 2 1) [gone2] = true := by
  constructor <;> decide +kernel
end Go.Proofs.YtkegnmclhkpbkaaGreat

/- Contract: delta.All: ops one behind the other. No condition. -/
namespace Go.Proofs.YtkegnmclhkpbkaaGreat
open Go Go.RowKit

/-- A graph, which op is wrong, and an error. -/
def RetA (g : Grf) (n : Nat) (err : Int) (w : World) (e : Ending) (w' : World) : Prop := ∃ vn vt, e = .returned (.tuple #[.agg #[vn, vt], .int .i64 n, errV err]) ∧ GrfR w' vn vt g ∧ Below w.heap.size w w'
theorem all_at {l : List Opr} {k : Nat} {o : Opr} (h : l[k]? = some o) (g : Grf) : allE g (l.drop k) = (if opE g o = 0 then allE (opG g o) (l.drop (k + 1)) else opE g o) ∧ allG g (l.drop k) = (if opE g o = 0 then allG (opG g o) (l.drop (k + 1)) else ⟨[], []⟩) ∧
    allI g (l.drop k) = (if opE g o = 0 then allI (opG g o) (l.drop (k + 1)) + 1 else 0) := by
  rw [drop_cons h]; exact ⟨rfl, rfl, rfl⟩
theorem grf_work2 {g : Grf} (h : grfE g = 0) : chain nodLt g.nodes = true ∧ chain tieLt g.ties = true ∧ g.nodes.length ≤ 60 ∧ g.ties.length ≤ 120 ∧ ∀ d ∈ g.nodes, d.props.length ≤ 1000 := by
  obtain ⟨h1, h2, h3, h4⟩ := grf_ok h
  exact ⟨h3, (grf_ties h).1, h1, h2, fun d hd => by have := (rec_ok (nod_rec' (h4 d hd).2)).1; omega⟩
/-- At the head of the loop: the graph in the law's box is the call's own. -/
structure AInv (w : World) (B : Nat) (g : Grf) (l : List Opr) (k : Nat) (gk : Grf) (vn vt : Value) (xs : List Value) (wr : World) : Prop where
  q : wr.heap[w.heap.size]? = some (.cells #[vn, vt] 29 (0, 0))
  p : wr.heap[w.heap.size + 1]? = some (.cells #[.slice none 0 0, .slice none 0 0] 29 (0, 0))
  o : OwnG wr B vn vt gk xs
  r : grfE gk = 0
  b : Below w.heap.size w wr
  z : B ≤ wr.heap.size
  ee : allE g l = allE gk (l.drop k)
  gg : allG g l = allG gk (l.drop k)
  ii : allI g l = allI gk (l.drop k) + k
theorem AInv.below {w wr wx : World} {B : Nat} {g : Grf} {l : List Opr} {k : Nat} {gk : Grf} {vn vt : Value} {xs : List Value} (h : AInv w B g l k gk vn vt xs wr) (hb : Below wr.heap.size wr wx) : AInv w B g l k gk vn vt xs wx :=
  ⟨(hb.block _ (Array.getElem?_eq_some_iff.1 h.q).1).trans h.q, (hb.block _ (Array.getElem?_eq_some_iff.1 h.p).1).trans h.p, h.o.below hb, h.r, h.b.trans (hb.mono h.b.size), Nat.le_trans h.z hb.size, h.ee, h.gg, h.ii⟩
set_option maxRecDepth 100000 in
set_option maxHeartbeats 16000000 in
theorem dall_any (g : Grf) (l : List Opr) (vn vt vl : Value) (w : World) (hG : GrfR w vn vt g) (hL : Sl oprL w vl l) :
    Calls Tryz.prog 5 #[.agg #[vn, vt], vl] w (RetA (dallG g l) (dallI g l) (dallE g l) w) := by
  obtain ⟨An, cn, rfl, _, _⟩ := hG.1.form
  obtain ⟨At, ct, rfl, _, _⟩ := hG.2.form
  obtain ⟨Al, cl, rfl, hlc, hlm⟩ := hL.form
  unfold maxLen at hlm
  obtain ⟨W0, hW0⟩ : ∃ W0, W0 = (w.alloc (.cells #[.slice An g.nodes.length cn, .slice At g.ties.length ct] 29)).alloc (.cells #[.slice none 0 0, .slice none 0 0] 29) := ⟨_, rfl⟩
  have hb0 : Below w.heap.size w W0 := by rw [hW0]; exact ((Below.refl _ _).alloc (Nat.le_refl _) _).alloc (by simp) _
  have g0 : W0.heap[w.heap.size]? = some (.cells #[.slice An g.nodes.length cn, .slice At g.ties.length ct] 29 (0, 0)) := by
    rw [hW0, Below.heap_alloc _ _ _ (by simp)]; exact heap_alloc_new _ _
  have g1 : W0.heap[w.heap.size + 1]? = some (.cells #[.slice none 0 0, .slice none 0 0] 29 (0, 0)) := by
    have := heap_alloc_new (w.alloc (.cells #[.slice An g.nodes.length cn, .slice At g.ties.length ct] 29)) (.cells #[.slice none 0 0, .slice none 0 0] 29); rw [hW0]; simpa using this
  have hsz : W0.heap.size = w.heap.size + 2 := by rw [hW0]; simp
  have hW0' := hW0.symm
  have hw0 := hb0.size
  have HDE : Hid (dallE g l = if 40 < l.length then 4 else if grfE g = 0 then allE g l else grfE g) := rfl
  have HDG : Hid (dallG g l = if dallE g l = 0 then allG g l else ⟨[], []⟩) := rfl
  have HDI : Hid (dallI g l = if 40 < l.length then 0 else if grfE g = 0 then (if allE g l = 0 then 0 else allI g l) else 0) := rfl
  generalize dallE g l = de at *
  generalize dallG g l = dg at *
  generalize dallI g l = di at *
  have HG := Lib.hid (hG.below hb0)
  have HL := Lib.hid (hL.below hb0)
  have hck := grfCheck_any g _ _ W0 (hG.below hb0)
  have G0 := Lib.hid g0
  have G1 := Lib.hid g1
  have hL0 := hL
  clear hG hL hW0
  by_cases hl40 : 40 < l.length
  · clear hL0
    have HEE : Hid (errV de = .iface 69 (.int .i64 4) ∧ dg = ⟨[], []⟩ ∧ (di : Int) = 0) := by
      have h0 : de = 4 := by rw [HDE.out, if_pos hl40]
      exact ⟨by rw [h0]; rfl, by rw [HDG.out, h0]; rfl, by rw [HDI.out, if_pos hl40]; rfl⟩
    have hl40' : (40 : Int) < (l.length : Int) := by omega
    clear HDE HDG HDI hck g0
    go_enter Tryz.func5, Tryz.ntmps5
    go_upto_region 1 with fail
    clear hW0'
    -- no graph comes back: W0: the world; g1: that the result's block stands there; hb0: above w; 0: which op; .iface 69 (.int .i64 4): the error's term
    -- what is returned is stored: W0: the world; g1: the block stands there
    have a0 := block_free (g1) 0
    have a1 := block_free (g1) 1
    have a2 := block_cell (g1) 0
    have a3 := block_cell (g1) 1
    have HP4 := Lib.hid (setCell_block (setCell_block (g1) 0 (.slice none 0 0)) 1 (.slice none 0 0))
    clear g1
    go_wp2_with fail
    have k2 := block_cell HP4.out 0
    have k3 := block_cell HP4.out 1
    exact bodyPost_ret (v := .tuple #[.agg #[.slice none 0 0, .slice none 0 0], .int .i64 (0), .iface 69 (.int .i64 4)]) (by simp [results, Tryz.results5, go_sem, k2, k3]) rfl
      ⟨.slice none 0 0, .slice none 0 0, by rw [HEE.out.1, HEE.out.2.2], by rw [HEE.out.2.1]; exact ⟨Sl.nil 0 (Nat.zero_le _) none, Sl.nil 0 (Nat.zero_le _) none⟩, ((hb0).setCell (p := ⟨w.heap.size + 1, 0, none⟩) (by show w.heap.size ≤ w.heap.size + 1; omega) _).setCell (p := ⟨w.heap.size + 1, 1, none⟩) (by show w.heap.size ≤ w.heap.size + 1; omega) _⟩
  have hl40' : ¬ ((40 : Int) < (l.length : Int)) := by omega
  have x0 := block_cell g0 0
  have x1 := block_cell g0 1
  clear g0 g1
  go_enter Tryz.func5, Tryz.ntmps5
  go_wp2_with fail
  clear hW0'
  refine hck.mono ?_
  clear hck x0 x1
  rintro e w1 ⟨rfl, hb1⟩
  have hB1 := hb0.trans (hb1.mono hw0)
  have m0 := (hb1.block _ (Array.getElem?_eq_some_iff.1 G0.out).1).trans G0.out
  have m1 := (hb1.block _ (Array.getElem?_eq_some_iff.1 G1.out).1).trans G1.out
  have hs1 := hb1.size
  by_cases he : grfE g = 0
  case neg =>
    have HEE : Hid (errV de = .iface 69 (.int .i64 (grfE g)) ∧ dg = ⟨[], []⟩ ∧ (di : Int) = 0) := by
      have h0 : de = grfE g := by rw [HDE.out, if_neg hl40, if_neg he]
      exact ⟨by rw [h0]; exact errV_some he, by rw [HDG.out, h0, if_neg he], by rw [HDI.out, if_neg hl40, if_neg he]; rfl⟩
    rw [errV_some he]
    clear he HDE HDG HDI m0 hL0
    -- no graph comes back: w1: the world; m1: that the result's block stands there; hB1: above w; 0: which op; .iface 69 (.int .i64 (grfE g)): the error's term
    -- what is returned is stored: w1: the world; m1: the block stands there
    have a0 := block_free (m1) 0
    have a1 := block_free (m1) 1
    have a2 := block_cell (m1) 0
    have a3 := block_cell (m1) 1
    have HP4 := Lib.hid (setCell_block (setCell_block (m1) 0 (.slice none 0 0)) 1 (.slice none 0 0))
    clear m1
    go_wp2_with fail
    have k2 := block_cell HP4.out 0
    have k3 := block_cell HP4.out 1
    exact bodyPost_ret (v := .tuple #[.agg #[.slice none 0 0, .slice none 0 0], .int .i64 (0), .iface 69 (.int .i64 (grfE g))]) (by simp [results, Tryz.results5, go_sem, k2, k3]) rfl
      ⟨.slice none 0 0, .slice none 0 0, by rw [HEE.out.1, HEE.out.2.2], by rw [HEE.out.2.1]; exact ⟨Sl.nil 0 (Nat.zero_le _) none, Sl.nil 0 (Nat.zero_le _) none⟩, ((hB1).setCell (p := ⟨w.heap.size + 1, 0, none⟩) (by show w.heap.size ≤ w.heap.size + 1; omega) _).setCell (p := ⟨w.heap.size + 1, 1, none⟩) (by show w.heap.size ≤ w.heap.size + 1; omega) _⟩
  rw [errV_zero he]
  obtain ⟨k1, k2, k3, k4, k5⟩ := grf_work2 he
  have hown := own_any g _ _ w1 (HG.out.below hb1) (by omega) (by omega) k5
  have HD2 : Hid (de = allE g l ∧ dg = (if de = 0 then allG g l else ⟨[], []⟩) ∧ di = (if allE g l = 0 then 0 else allI g l)) := ⟨by rw [HDE.out, if_neg hl40, if_pos he], HDG.out, by rw [HDI.out, if_neg hl40, if_pos he]⟩
  have x0 := block_cell m0 0
  have x1 := block_cell m0 1
  have f0 := block_free m0 0
  have f1 := block_free m0 1
  have HGE := Lib.hid he
  have M0 := Lib.hid m0
  have M1 := Lib.hid m1
  clear HDE HDG HDI he m0 m1 k1 k2 k3 k4 k5
  have HLW := Lib.hid hL0
  clear hL0
  have hB1s : w.heap.size + 2 ≤ w1.heap.size := by omega
  go_wp2_with fail
  refine hown.mono ?_
  clear hown x0 x1
  rintro e w2 ⟨un, ut, ys, rfl, ho2, hb2⟩
  obtain ⟨A2, c2, rfl, _, _⟩ := ho2.n.form
  obtain ⟨A3, c3, rfl, _, _⟩ := ho2.t.form
  have n0 := (hb2.block _ (Array.getElem?_eq_some_iff.1 M0.out).1).trans M0.out
  have n1 := (hb2.block _ (Array.getElem?_eq_some_iff.1 M1.out).1).trans M1.out
  have hI0 : AInv w w1.heap.size g l 0 g (.slice A2 g.nodes.length c2) (.slice A3 g.ties.length c3) ys ((w2.setCell ⟨w.heap.size, 0, none⟩ (.slice A2 g.nodes.length c2)).setCell ⟨w.heap.size, 1, none⟩ (.slice A3 g.ties.length c3)) := by
    have hS : ∀ T, 29 ≠ T → Same T w2 ((w2.setCell ⟨w.heap.size, 0, none⟩ (.slice A2 g.nodes.length c2)).setCell ⟨w.heap.size, 1, none⟩ (.slice A3 g.ties.length c3)) := fun T hT => (Same.setCell (p := ⟨w.heap.size, 0, none⟩) n0 hT _).trans (Same.setCell (p := ⟨w.heap.size, 1, none⟩) (setCell_block n0 0 _) hT _)
    refine ⟨setCell_block (setCell_block n0 0 _) 1 _, ?_, ho2.same (hS _ (by decide)) (hS _ (by decide)) (hS _ (by decide)), HGE.out, ((hB1.trans (hb2.mono (by omega))).setCell (p := ⟨w.heap.size, 0, none⟩) (Nat.le_refl _) _).setCell (p := ⟨w.heap.size, 1, none⟩) (Nat.le_refl _) _, ?_, by rw [List.drop_zero], by rw [List.drop_zero], by rw [List.drop_zero]; rfl⟩
    · rw [Below.heap_setCell _ _ _ _ (by show w.heap.size + 1 ≠ w.heap.size; omega), Below.heap_setCell _ _ _ _ (by show w.heap.size + 1 ≠ w.heap.size; omega)]; exact n1
    · have := hb2.size; simp [World.setCell]; omega
  have f0 := block_free n0 0
  have f1 := block_free n0 1
  have x0 := block_cell n0 0
  have x1 := block_cell n0 1
  have HI0 := Lib.hid hI0
  clear hI0 n0 n1 ho2 hb2
  go_wp2_with fail
  clear f0 f1 x0 x1
  go_loopw [27] (fun i wr => ∃ (k : Nat) (gk : Grf) (vn vt : Value) (xs : List Value), k ≤ l.length ∧ i = .int .i64 k ∧ AInv w w1.heap.size g l k gk vn vt xs wr) (fun i _ => l.length - (intOf i).toNat)
  case atStart => exact ⟨0, g, _, _, ys, Nat.zero_le _, rfl, HI0.out⟩
  case round =>
    clear HI0
    obtain ⟨k, gk, vnk, vtk, xs, hk, rfl, hI⟩ := hrel
    obtain ⟨A4, c4, rfl, _, _⟩ := hI.o.n.form
    obtain ⟨A5, c5, rfl, _, _⟩ := hI.o.t.form
    have HI := Lib.hid hI
    have hbw := hI.b
    have hbs := hI.z
    clear hI
    by_cases hlt : k < l.length
    · obtain ⟨o, hd⟩ : ∃ d, l[k]? = some d := ⟨_, List.getElem?_eq_getElem hlt⟩
      have hlt' : (k : Int) < (l.length : Int) := by omega
      obtain ⟨bo, oo, vr, hA, hor, hcells⟩ := opr_at (HLW.out.below hbw) hd
      subst hA
      obtain ⟨hN1, hN2, hN3⟩ := all_at hd gk
      have HN := Lib.hid (And.intro hN1 (And.intro hN2 hN3))
      obtain ⟨Ar, cr, hvr, _, _⟩ := hor.r.form
      subst hvr
      obtain ⟨what, node, prop, tie⟩ := o
      have q0 : wr.cell? ⟨bo, oo + k * 11, none⟩ = some (.int .i64 what) := hcells 0 _ rfl
      have q1 : wr.cell? ⟨bo, oo + k * 11 + 1, none⟩ = some (.int .i64 node.id) := hcells 1 _ rfl
      have q2 : wr.cell? ⟨bo, oo + k * 11 + 2, none⟩ = some (.string node.kind) := hcells 2 _ rfl
      have q3 : wr.cell? ⟨bo, oo + k * 11 + 3, none⟩ = some (.slice Ar node.props.length cr) := hcells 3 _ rfl
      have q4 : wr.cell? ⟨bo, oo + k * 11 + 4, none⟩ = some (.string prop.name) := hcells 4 _ rfl
      have q5 : wr.cell? ⟨bo, oo + k * 11 + 5, none⟩ = some (.int .i64 prop.v.ty) := hcells 5 _ rfl
      have q6 : wr.cell? ⟨bo, oo + k * 11 + 6, none⟩ = some (.int .i64 prop.v.n) := hcells 6 _ rfl
      have q7 : wr.cell? ⟨bo, oo + k * 11 + 7, none⟩ = some (.string prop.v.s) := hcells 7 _ rfl
      have q8 : wr.cell? ⟨bo, oo + k * 11 + 8, none⟩ = some (.string tie.bond) := hcells 8 _ rfl
      have q9 : wr.cell? ⟨bo, oo + k * 11 + 9, none⟩ = some (.int .i64 tie.src) := hcells 9 _ rfl
      have q10 : wr.cell? ⟨bo, oo + k * 11 + 10, none⟩ = some (.int .i64 tie.dst) := hcells 10 _ rfl
      have hbk := heap_alloc_new wr (.cells #[.int .i64 what, .int .i64 node.id, .string node.kind, .slice Ar node.props.length cr, .string prop.name, .int .i64 prop.v.ty, .int .i64 prop.v.n, .string prop.v.s, .string tie.bond, .int .i64 tie.src, .int .i64 tie.dst] 47)
      have ha1 : Below wr.heap.size wr (wr.alloc (.cells #[.int .i64 what, .int .i64 node.id, .string node.kind, .slice Ar node.props.length cr, .string prop.name, .int .i64 prop.v.ty, .int .i64 prop.v.n, .string prop.v.s, .string tie.bond, .int .i64 tie.src, .int .i64 tie.dst] 47)) := (Below.refl _ _).alloc (Nat.le_refl _) _
      have HOR := Lib.hid hor
      clear hd hcells hor hN1 hN2 hN3
      go_upto_region 10 with fail
      generalize wr.alloc (.cells #[.int .i64 what, .int .i64 node.id, .string node.kind, .slice Ar node.props.length cr, .string prop.name, .int .i64 prop.v.ty, .int .i64 prop.v.n, .string prop.v.s, .string tie.bond, .int .i64 tie.src, .int .i64 tie.dst] 47) = wa at *
      clear q0 q1 q2 q3 q4 q5 q6 q7 q8 q9 q10
      have hIa := HI.out.below ha1
      obtain ⟨j1, j2, j3, j4, _⟩ := grf_work2 HI.out.r
      have hdo := do_any gk ⟨what, node, prop, tie⟩ _ _ (.slice Ar node.props.length cr) xs w1.heap.size wa (by have := ha1.size; omega) hIa.o (HOR.out.below ha1) j1 j2 (by omega) (by omega)
      have y0 := block_cell hbk 0
      have y1 := block_cell hbk 1
      have y2 := block_cell hbk 2
      have y3 := block_cell hbk 3
      have y4 := block_cell hbk 4
      have y5 := block_cell hbk 5
      have y6 := block_cell hbk 6
      have y7 := block_cell hbk 7
      have y8 := block_cell hbk 8
      have y9 := block_cell hbk 9
      have y10 := block_cell hbk 10
      have x0 := block_cell hIa.q 0
      have x1 := block_cell hIa.q 1
      have HIA := Lib.hid hIa
      have hdo' : Calls Tryz.prog 17 #[.agg #[.slice A4 gk.nodes.length c4, .slice A5 gk.ties.length c5], .agg #[.int .i64 what, .int .i64 node.id, .string node.kind, .slice Ar node.props.length cr, .string prop.name, .int .i64 prop.v.ty, .int .i64 prop.v.n, .string prop.v.s, .string tie.bond, .int .i64 tie.src, .int .i64 tie.dst]] wa (RetOG w1.heap.size (.slice A4 gk.nodes.length c4) (.slice A5 gk.ties.length c5) (opG gk ⟨what, node, prop, tie⟩) (opE gk ⟨what, node, prop, tie⟩) wa) := hdo
      clear hIa j1 j2 j3 j4 hbk hdo
      generalize hge : opE gk ⟨what, node, prop, tie⟩ = oe at *
      generalize hgg : opG gk ⟨what, node, prop, tie⟩ = og at *
      have HGE2 := Lib.hid hge
      have HGG := Lib.hid hgg
      clear hge hgg
      go_wp2_with fail
      refine hdo'.mono ?_
      clear hdo' y0 y1 y2 y3 y4 y5 y6 y7 y8 y9 y10 x0 x1
      rintro e w3 ⟨un, ut, rfl, how, ⟨A6, n6, c6, A7, n7, c7, rfl, rfl⟩, hB3, hK3⟩
      have hs3 := hK3.s
      have p0 := (hB3.block _ (by omega)).trans HIA.out.q
      have p1 := (hB3.block _ (by omega)).trans HIA.out.p
      have hx3 : Below w3.heap.size w3 (w3.alloc (.cells #[.slice A6 n6 c6, .slice A7 n7 c7] 29)) := (Below.refl _ _).alloc (Nat.le_refl _) _
      have r0 := (hx3.block _ (Array.getElem?_eq_some_iff.1 p0).1).trans p0
      have r1 := (hx3.block _ (Array.getElem?_eq_some_iff.1 p1).1).trans p1
      have rn := heap_alloc_new w3 (.cells #[.slice A6 n6 c6, .slice A7 n7 c7] 29)
      have hbx : Below w.heap.size w (w3.alloc (.cells #[.slice A6 n6 c6, .slice A7 n7 c7] 29)) := (HIA.out.b.trans (hB3.mono (by omega))).alloc (by have := ha1.size; have := hbw.size; omega) _
      have has := ha1.size
      by_cases hoe : oe = 0
      · have how2 := how hoe
        obtain ⟨zs, hz⟩ := how2
        have hzx := hz.below hx3
        have hnn : n6 = og.nodes.length ∧ n7 = og.ties.length := by
          obtain ⟨a1, a2, a3, _, _⟩ := hz.n.form
          obtain ⟨b1, b2, b3, _, _⟩ := hz.t.form
          injection a3 with _ a3 _
          injection b3 with _ b3 _
          exact ⟨a3, b3⟩
        rw [errV_zero hoe]
        have hE : AInv w w1.heap.size g l (k + 1) og (.slice A6 n6 c6) (.slice A7 n7 c7) zs (((w3.alloc (.cells #[.slice A6 n6 c6, .slice A7 n7 c7] 29)).setCell ⟨w.heap.size, 0, none⟩ (.slice A6 n6 c6)).setCell ⟨w.heap.size, 1, none⟩ (.slice A7 n7 c7)) := by
          have hS : ∀ T, 29 ≠ T → Same T (w3.alloc (.cells #[.slice A6 n6 c6, .slice A7 n7 c7] 29)) (((w3.alloc (.cells #[.slice A6 n6 c6, .slice A7 n7 c7] 29)).setCell ⟨w.heap.size, 0, none⟩ (.slice A6 n6 c6)).setCell ⟨w.heap.size, 1, none⟩ (.slice A7 n7 c7)) := fun T hT => (Same.setCell (p := ⟨w.heap.size, 0, none⟩) r0 hT _).trans (Same.setCell (p := ⟨w.heap.size, 1, none⟩) (setCell_block r0 0 _) hT _)
          obtain ⟨e1, e2, e3⟩ := HN.out
          have e1 : allE gk (l.drop k) = if oe = 0 then allE og (l.drop (k + 1)) else oe := e1
          have e2 : allG gk (l.drop k) = if oe = 0 then allG og (l.drop (k + 1)) else ⟨[], []⟩ := e2
          have e3 : allI gk (l.drop k) = if oe = 0 then allI og (l.drop (k + 1)) + 1 else 0 := e3
          rw [if_pos hoe] at e1 e2 e3
          refine ⟨setCell_block (setCell_block r0 0 _) 1 _, ?_, hzx.same (hS _ (by decide)) (hS _ (by decide)) (hS _ (by decide)), ?_, (hbx.setCell (p := ⟨w.heap.size, 0, none⟩) (Nat.le_refl _) _).setCell (p := ⟨w.heap.size, 1, none⟩) (Nat.le_refl _) _, ?_, by rw [HIA.out.ee, e1], by rw [HIA.out.gg, e2], by rw [HIA.out.ii, e3]; omega⟩
          · rw [Below.heap_setCell _ _ _ _ (by show w.heap.size + 1 ≠ w.heap.size; omega), Below.heap_setCell _ _ _ _ (by show w.heap.size + 1 ≠ w.heap.size; omega)]; exact r1
          · have := op_right HIA.out.r (HGE2.out.trans hoe)
            rw [HGG.out] at this
            exact this
          · simp [World.setCell]; omega
        have HE := Lib.hid hE
        have a0 := block_free r0 0
        have a1 := block_free r0 1
        have a2 := block_cell r0 0
        have a3 := block_cell r0 1
        have a4 := block_cell rn 0
        have a5 := block_cell rn 1
        clear hE hz hzx how p0 p1 r0 r1 rn hB3 hK3 hoe hnn hx3 hbx
        go_wp2_with fail
        go_roundw
        case rel => exact ⟨k + 1, og, _, _, zs, by omega, by go_num, HE.out⟩
        case measure => simp [intOf]; omega
      · have HEE : Hid (errV de = .iface 69 (.int .i64 oe) ∧ dg = ⟨[], []⟩ ∧ (di : Int) = k) := by
          obtain ⟨e1, e2, e3⟩ := HN.out
          have e1 : allE gk (l.drop k) = if oe = 0 then allE og (l.drop (k + 1)) else oe := e1
          have e3 : allI gk (l.drop k) = if oe = 0 then allI og (l.drop (k + 1)) + 1 else 0 := e3
          rw [if_neg hoe] at e1 e3
          have h0 : de = oe := by rw [HD2.out.1, HIA.out.ee, e1]
          refine ⟨by rw [h0]; exact errV_some hoe, by rw [HD2.out.2.1, h0, if_neg hoe], ?_⟩
          rw [HD2.out.2.2, ← HD2.out.1, h0, if_neg hoe, HIA.out.ii, e3]; omega
        rw [errV_some hoe]
        clear how p0 p1 r0 rn hB3 hK3 hoe hx3 HD2 HN
        generalize hwx : w3.alloc (.cells #[.slice A6 n6 c6, .slice A7 n7 c7] 29) = wx at *
        -- what is returned is stored: wx: the world; r1: the block stands there
        have a0 := block_free (r1) 0
        have a1 := block_free (r1) 1
        have a2 := block_cell (r1) 0
        have a3 := block_cell (r1) 1
        have HP4 := Lib.hid (setCell_block (setCell_block r1 0 (.slice none 0 0)) 1 (.slice none 0 0))
        clear r1
        go_wp2_with fail
        have k2 := block_cell HP4.out 0
        have k3 := block_cell HP4.out 1
        exact bodyPost_ret (v := .tuple #[.agg #[.slice none 0 0, .slice none 0 0], .int .i64 k, .iface 69 (.int .i64 oe)]) (by simp [results, Tryz.results5, go_sem, k2, k3]) rfl
          ⟨.slice none 0 0, .slice none 0 0, by rw [HEE.out.1, HEE.out.2.2], by rw [HEE.out.2.1]; exact ⟨Sl.nil 0 (Nat.zero_le _) none, Sl.nil 0 (Nat.zero_le _) none⟩, (hbx.setCell (p := ⟨w.heap.size + 1, 0, none⟩) (by show w.heap.size ≤ w.heap.size + 1; omega) _).setCell (p := ⟨w.heap.size + 1, 1, none⟩) (by show w.heap.size ≤ w.heap.size + 1; omega) _⟩
    · obtain rfl : k = l.length := by omega
      have HEE : Hid (errV de = .nilIface ∧ dg = gk ∧ (di : Int) = 0) := by
        have e1 := HI.out.ee
        have e2 := HI.out.gg
        rw [List.drop_length] at e1 e2
        have e1 : allE g l = 0 := e1
        have e2 : allG g l = gk := e2
        have h0 : de = 0 := by rw [HD2.out.1, e1]
        exact ⟨by rw [h0]; rfl, by rw [HD2.out.2.1, if_pos h0, e2], by rw [HD2.out.2.2, if_pos e1]; rfl⟩
      have x0 := block_cell HI.out.q 0
      have x1 := block_cell HI.out.q 1
      have a0 := block_free HI.out.p 0
      have a1 := block_free HI.out.p 1
      have a2 := block_cell HI.out.p 0
      have a3 := block_cell HI.out.p 1
      have HP4 := Lib.hid (setCell_block (setCell_block HI.out.p 0 (.slice A4 gk.nodes.length c4)) 1 (.slice A5 gk.ties.length c5))
      have HR : Hid (GrfR ((wr.setCell ⟨w.heap.size + 1, 0, none⟩ (.slice A4 gk.nodes.length c4)).setCell ⟨w.heap.size + 1, 1, none⟩ (.slice A5 gk.ties.length c5)) (.slice A4 gk.nodes.length c4) (.slice A5 gk.ties.length c5) gk) := by
        have hS : ∀ T, 29 ≠ T → Same T wr ((wr.setCell ⟨w.heap.size + 1, 0, none⟩ (.slice A4 gk.nodes.length c4)).setCell ⟨w.heap.size + 1, 1, none⟩ (.slice A5 gk.ties.length c5)) := fun T hT => (Same.setCell (p := ⟨w.heap.size + 1, 0, none⟩) HI.out.p hT _).trans (Same.setCell (p := ⟨w.heap.size + 1, 1, none⟩) (setCell_block HI.out.p 0 _) hT _)
        exact (HI.out.o.same (hS _ (by decide)) (hS _ (by decide)) (hS _ (by decide))).r
      have HBW := Lib.hid ((hbw.setCell (p := ⟨w.heap.size + 1, 0, none⟩) (by show w.heap.size ≤ w.heap.size + 1; omega) (.slice A4 gk.nodes.length c4)).setCell (p := ⟨w.heap.size + 1, 1, none⟩) (by show w.heap.size ≤ w.heap.size + 1; omega) (.slice A5 gk.ties.length c5))
      clear hbw hlt HD2
      go_wp2_with fail
      have k2 := block_cell HP4.out 0
      have k3 := block_cell HP4.out 1
      exact bodyPost_ret (v := .tuple #[.agg #[.slice A4 gk.nodes.length c4, .slice A5 gk.ties.length c5], .int .i64 0, .nilIface]) (by simp [results, Tryz.results5, go_sem, k2, k3]) rfl
        ⟨_, _, by rw [HEE.out.1, HEE.out.2.2], by rw [HEE.out.2.1]; exact HR.out, HBW.out⟩
end Go.Proofs.YtkegnmclhkpbkaaGreat
