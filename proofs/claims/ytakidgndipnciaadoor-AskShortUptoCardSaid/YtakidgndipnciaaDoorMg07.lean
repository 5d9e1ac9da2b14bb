/- Parts: Qt, Qm, InsA, InsC, InsB, RecA, RecB, GrA, GrB, FindA, FindB, OwnF. -/
import Derived.StillTail
import Derived.BigQuiet
import Derived.Lib.QuietBelow
import Derived.Test.YtakidgndipnciaaDoorMg04
import Derived.Lib.AppendZerosOnto
import Derived.Lib.Overlaps
import Derived.Test.YtakidgndipnciaaDoorRows
import Derived.Maps.RangeWalk
import Derived.Test.YtakidgndipnciaaDoorMg03
import Derived.Lib.Bytealg
import Derived.StillTailTactics
import Derived.Sort.Walk0
/- A region that draws its order: all operations but the last few only read (in whatever world of a class), the last few stand in one order: one walk in the order of the text serves every order. Conditions: the two Bools on the region. -/
namespace Go.Proofs.YtakidgndipnciaaDoor
open Go Go.RowKit Go.Sort
section
variable {P : Program} {ops : Array Oper} {md : Region.Mode} {C : World → Prop}

end
section
variable {P : Program} {ops : Array Oper} {md : Region.Mode} {C : World → Prop}

end
open Go Go.RowKit

theorem addr_add (b o n : Nat) : (⟨b, o, none⟩ : Addr).add n = ⟨b, o + n, none⟩ := by
  unfold Addr.add
  split
  · rename_i h; subst h; rfl
  · rfl

/-! ### Lists -/
/-- What stands in the place of what it covers. -/
def lay {α : Type} (cur : List α) (o : Nat) (cs : List α) : List α := cur.take o ++ cs ++ cur.drop (o + cs.length)

section
variable {P : Program} (w : World) (B : Nat) (e tS tV tI : TypeId) (i0 : TypeInfo) (z : Value) (sz bytes : Nat)
  (hS : P.underlying tS = some (.slice e)) (hI : P.underlying tI = some (.int .i64)) (ei : P.info? e = some i0) (ez : i0.zero = some z) (ez1 : i0.size = sz) (ez2 : i0.bytes = bytes) (hzs : z.cells.size = sz) (hsz : 0 < sz) (hby : bytes ≤ 4096)
  (g o n cap : Nat) (xs : List Value) (hown : Own w B e sz (.slice (some ⟨g, o, none⟩) n cap) n xs) (i : Nat) (hi : i < n) (hn : n ≤ 1000000)
  (vb : Nat) (cs : List Value) (hcl : cs.length = sz) (hcs : w.heap[vb]? = some (.cells cs.toArray e (0, 0))) (h1 : ∀ u ∈ cs, u.oneCell' = true) (hx1 : ∀ u ∈ xs, u.oneCell' = true)
include hS ei ez1 hown hi hcl hcs h1 hx1 hsz

include hI ez ez2 hzs hby hn in
omit h1 hx1 in
end

open Go.RowKit

/-- The fault of the first that has one; 0: none has. -/
def firstE {D : Type} (f : D → Int) : List D → Int
  | [] => 0
  | d :: r => if f d = 0 then firstE f r else f d
theorem firstE_hit {D : Type} {f : D → Int} : ∀ {l : List D} {k : Nat} {d : D}, (∀ j x, j < k → l[j]? = some x → f x = 0) → l[k]? = some d → f d ≠ 0 → firstE f l = f d
  | a :: r, 0, d, _, h2, h3 => by
    simp at h2
    subst h2
    simp [firstE, h3]
  | a :: r, k + 1, d, h1, h2, h3 => by
    have h0 : f a = 0 := h1 0 a (by omega) rfl
    simp only [firstE, h0, if_true]
    exact firstE_hit (l := r) (k := k) (fun j x hj hx => h1 (j + 1) x (by omega) (by simpa using hx)) (by simpa using h2) h3
theorem firstE_none {D : Type} {f : D → Int} : ∀ {l : List D}, (∀ j x, j < l.length → l[j]? = some x → f x = 0) → firstE f l = 0
  | [], _ => rfl
  | a :: r, h1 => by
    have h0 : f a = 0 := h1 0 a (by simp) rfl
    simp only [firstE, h0, if_true]
    exact firstE_none (l := r) (fun j x hj hx => h1 (j + 1) x (by simpa using hj) (by simpa using hx))
theorem zero_step {D : Type} {f : D → Int} {l : List D} {k : Nat} {d : D} (h1 : ∀ j x, j < k → l[j]? = some x → f x = 0) (h2 : l[k]? = some d) (h3 : f d = 0) : ∀ j x, j < k + 1 → l[j]? = some x → f x = 0 := by
  intro j x hj hx
  by_cases e : j = k
  · subst e
    have := h2.symm.trans hx
    cases this
    exact h3
  · exact h1 j x (by omega) hx

/-- Each is ahead of the next one. -/
def chain {D : Type} (R : D → D → Bool) : List D → Bool
  | a :: b :: r => R a b && chain R (b :: r)
  | _ => true
/-- Is a text ahead of another one? -/
def ltS (a b : ByteArray) : Bool := Op.bytesLess a.toList b.toList

/-! ### record.prop, record.Check -/
def prpE (p : Prp) : Int := if nameE p.name = 0 then valE p.v else nameE p.name
def recE (r : List Prp) : Int := if 8 < r.length then 4 else if firstE prpE r = 0 then (if chain (fun a b => ltS a.name b.name) r then 0 else 7) else firstE prpE r



/-! ### graph.OfNode, graph.OfTie, graph.Order -/

theorem cell_box3 (w : World) (a b c : Value) (t : TypeId) : (w.alloc (.cells #[a, b, c] t)).cell? ⟨w.heap.size, 0, none⟩ = some a ∧ (w.alloc (.cells #[a, b, c] t)).cell? ⟨w.heap.size, 1, none⟩ = some b ∧
    (w.alloc (.cells #[a, b, c] t)).cell? ⟨w.heap.size, 2, none⟩ = some c :=
  ⟨by rw [World.cell?_alloc_at _ _ _ _ rfl]; rfl, by rw [World.cell?_alloc_at _ _ _ _ rfl]; rfl, by rw [World.cell?_alloc_at _ _ _ _ rfl]; rfl⟩


/-! ### Nodes by number -/
/-! ### Properties by name -/

section
variable {D : Type} {n : Nat} {enc : D → List Value}
theorem flat_get (hn : ∀ d, (enc d).length = n) : ∀ {l : List D} {i j : Nat} {d : D} {u : Value}, l[i]? = some d → (enc d)[j]? = some u → (l.flatMap enc)[i * n + j]? = some u
  | [], i, j, d, u, h, _ => by simp at h
  | a :: l, 0, j, d, u, h, hu => by
    simp at h; subst h
    rw [List.flatMap_cons, Nat.zero_mul, Nat.zero_add, List.getElem?_append_left (List.getElem?_eq_some_iff.1 hu).1]; exact hu
  | a :: l, i + 1, j, d, u, h, hu => by
    rw [List.flatMap_cons, List.getElem?_append_right (by rw [hn, Nat.add_mul]; omega), hn]
    have : (i + 1) * n + j - n = i * n + j := by rw [Nat.add_mul]; omega
    rw [this]
    exact flat_get hn (by simpa using h) hu
theorem flat_snoc (l : List D) (d : D) : l.flatMap enc ++ enc d = (l ++ [d]).flatMap enc := by simp
theorem Own.flat {w : World} {B : Nat} {e : TypeId} {v : Value} {l : List D} {ok : D → Prop} (hn : ∀ d, (enc d).length = n) (hl : ∀ x ∈ l, ok x) (h : Own w B e n v l.length (l.flatMap enc)) : Sl (flatL n ok enc hn) w v l := by
  obtain ⟨A, c, rfl, h1, h2⟩ := h.form
  refine ⟨A, c, rfl, h1, h2, fun i d hi => ?_⟩
  obtain ⟨g, o, c', hv, _, _⟩ := h.addr (len_pos hi)
  injection hv with hA _ hc
  subst hA; subst hc
  exact ⟨g, o, _, rfl, ⟨rfl, hl d (List.mem_of_getElem? hi)⟩, fun j u hj => h.cell rfl (flat_get hn hi hj)⟩
end
theorem Prp.enc_len (d : Prp) : d.enc.length = 4 := rfl
theorem Tie.enc_len (d : Tie) : d.enc.length = 3 := rfl
theorem Own.ties {w : World} {B : Nat} {e : TypeId} {v : Value} {l : List Tie} (h : Own w B e 3 v l.length (l.flatMap Tie.enc)) (hl : ∀ x ∈ l, x.ok) : Sl tieL w v l := h.flat Tie.enc_len hl
end Go.Proofs.YtakidgndipnciaaDoor
