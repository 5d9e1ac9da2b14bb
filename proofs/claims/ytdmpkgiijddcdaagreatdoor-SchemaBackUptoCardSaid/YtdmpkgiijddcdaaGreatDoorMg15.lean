/- Parts: SxI, SxN, TpB. -/
import Derived.Test.YtdmpkgiijddcdaaGreatDoorMg09
import Derived.Test.YtdmpkgiijddcdaaGreatDoorMg13
import Derived.Test.YtdmpkgiijddcdaaGreatDoorMg14
import Derived.RangeFuncCalls
/- Plain: what stands between two lines of schema.Parse, and what leaves it true. No condition. -/
namespace Go.Proofs.YtdmpkgiijddcdaaGreatDoor
open Go Go.RowKit

theorem OwnKnds.set_low {w : World} {B q : Nat} (hq : q < B) (i : Nat) (v : Value) : ∀ {l : List Knd} {xs : List Value}, OwnKnds w B l xs → OwnKnds (w.setCell ⟨q, i, none⟩ v) B l xs
  | [], _, h => h
  | _ :: _, _, h => by
    obtain ⟨u, x, ys, rfl, a1, a2, a3, a4, a5, a6⟩ := h
    exact ⟨u, x, ys, rfl, a1, a2, a3.setCell ⟨q, i, none⟩ v (fun e => by have := (a3.lt q e).1; omega), a4, a5.setCell ⟨q, i, none⟩ v (fun e => by have := (a5.lt q e).1; omega), a6.set_low hq i v⟩
theorem OwnKnds.mono {w : World} {B B' : Nat} (hB : B' ≤ B) : ∀ {l : List Knd} {xs : List Value}, OwnKnds w B l xs → OwnKnds w B' l xs
  | [], _, h => h
  | _ :: _, _, h => by
    obtain ⟨u, x, ys, rfl, a1, a2, a3, a4, a5, a6⟩ := h
    exact ⟨u, x, ys, rfl, a1, a2, a3.mono hB, a4, a5.mono hB, a6.mono hB⟩
/-- What stands between two lines: the results' boxes, the graph and the number of lines in theirs, the iterator's box. -/
structure RdS (b : Nat) (g : Scm) (An At : Option Addr) (cn ct : Nat) (xs : List Value) (pre : List (List UInt8)) (W : World) : Prop where
  r0 : W.heap[b]? = some (.cells #[.slice none 0 0, .slice none 0 0] 25 (0, 0))
  r1 : W.heap[b + 1]? = some (.cells #[.int .i64 0] 3 (0, 0))
  r2 : W.heap[b + 1 + 1]? = some (.cells #[.nilIface] 27 (0, 0))
  gb : W.heap[b + 1 + 1 + 1]? = some (.cells #[.slice An g.kinds.length cn, .slice At g.bonds.length ct] 25 (0, 0))
  nb : W.heap[b + 1 + 1 + 1 + 1]? = some (.cells #[.int .i64 (pre.length : Nat)] 3 (0, 0))
  qb : ∃ s, W.heap[b + 1 + 1 + 1 + 1 + 1]? = some (.cells #[s] 9 (0, 0))
  on : Own W b 35 3 (.slice An g.kinds.length cn) g.kinds.length xs
  nn : OwnKnds W (b + 6) g.kinds xs
  ot : Own W b 37 5 (.slice At g.bonds.length ct) g.bonds.length (g.bonds.flatMap Bnd.enc)
  tt : ∀ t ∈ g.bonds, t.ok
  run : ∀ rest, runS ⟨[], []⟩ 0 (pre ++ rest) = runS g pre.length rest
  low : b < W.heap.size
theorem RdS.all {b : Nat} {g : Scm} {An At : Option Addr} {cn ct : Nat} {xs : List Value} {pre : List (List UInt8)} {W W' : World} (h : RdS b g An At cn ct xs pre W) (hs : AllSame W W') : RdS b g An At cn ct xs pre W' where
  r0 := hs _ _ _ _ h.r0
  r1 := hs _ _ _ _ h.r1
  r2 := hs _ _ _ _ h.r2
  gb := hs _ _ _ _ h.gb
  nb := hs _ _ _ _ h.nb
  qb := by obtain ⟨s, hq⟩ := h.qb; exact ⟨s, hs _ _ _ _ hq⟩
  on := h.on.same (hs.same _)
  nn := h.nn.same (hs.same _) (hs.same _)
  ot := h.ot.same (hs.same _)
  tt := h.tt
  run := h.run
  low := (Array.getElem?_eq_some_iff.1 (hs _ _ _ _ h.r0)).1
/-- The iterator's own steps leave it true. -/
theorem RdS.step {b : Nat} {g : Scm} {An At : Option Addr} {cn ct : Nat} {xs : List Value} {pre : List (List UInt8)} {X Y : World} (h : RdS b g An At cn ct xs pre X) (hs : LStep (b + 1 + 1 + 1 + 1 + 1) X Y) : RdS b g An At cn ct xs pre Y := by
  rcases hs with ⟨m, rfl⟩ | ⟨v, m, rfl⟩
  · exact h.all (.drewN _ _)
  · refine RdS.all (W := X.setCell ⟨b + 1 + 1 + 1 + 1 + 1, 0, none⟩ v) ?_ (.drewN _ _)
    obtain ⟨s, hq⟩ := h.qb
    have hS : ∀ T, 9 ≠ T → Same T X (X.setCell ⟨b + 1 + 1 + 1 + 1 + 1, 0, none⟩ v) := fun T hT => .setCell (p := ⟨b + 1 + 1 + 1 + 1 + 1, 0, none⟩) hq hT v
    exact ⟨setCell_other h.r0 (by omega) _ _, setCell_other h.r1 (by omega) _ _, setCell_other h.r2 (by omega) _ _, setCell_other h.gb (by omega) _ _, setCell_other h.nb (by omega) _ _, ⟨v, setCell_block hq 0 v⟩,
      h.on.same (hS _ (by decide)), (h.nn.set_low (q := b + 1 + 1 + 1 + 1 + 1) (by omega) 0 v), h.ot.same (hS _ (by decide)), h.tt, h.run, by simp [World.setCell]; exact h.low⟩
/-- The results of a text whose line is wrong. -/
structure RxS (b : Nat) (pre : List (List UInt8)) (W : World) : Prop where
  r0 : W.heap[b]? = some (.cells #[.slice none 0 0, .slice none 0 0] 25 (0, 0))
  k : ∃ k : Nat, W.heap[b + 1]? = some (.cells #[.int .i64 k] 3 (0, 0)) ∧ ∀ rest, runS ⟨[], []⟩ 0 (pre ++ rest) = .error k
  r2 : W.heap[b + 1 + 1]? = some (.cells #[.iface 118 (.int .i64 2)] 27 (0, 0))
  qb : ∃ s, W.heap[b + 1 + 1 + 1 + 1 + 1]? = some (.cells #[s] 9 (0, 0))
theorem RxS.all {b : Nat} {pre : List (List UInt8)} {W W' : World} (h : RxS b pre W) (hs : AllSame W W') : RxS b pre W' where
  r0 := hs _ _ _ _ h.r0
  k := by obtain ⟨k, h1, h2⟩ := h.k; exact ⟨k, hs _ _ _ _ h1, h2⟩
  r2 := hs _ _ _ _ h.r2
  qb := by obtain ⟨s, hq⟩ := h.qb; exact ⟨s, hs _ _ _ _ hq⟩
theorem RxS.step {b : Nat} {pre : List (List UInt8)} {X Y : World} (h : RxS b pre X) (hs : LStep (b + 1 + 1 + 1 + 1 + 1) X Y) : RxS b pre Y := by
  rcases hs with ⟨m, rfl⟩ | ⟨v, m, rfl⟩
  · exact h.all (.drewN _ _)
  · obtain ⟨k, h1, h2⟩ := h.k
    obtain ⟨s, hq⟩ := h.qb
    exact ⟨setCell_other h.r0 (by omega) _ _, ⟨k, setCell_other h1 (by omega) _ _, h2⟩, setCell_other h.r2 (by omega) _ _, ⟨v, setCell_block hq 0 v⟩⟩
/-- A line more. -/
theorem runS_more {g g' : Scm} {pre : List (List UInt8)} {x : List UInt8} (h : ∀ rest, runS ⟨[], []⟩ 0 (pre ++ rest) = runS g pre.length rest) (hx : lineS g x = some g') : ∀ rest, runS ⟨[], []⟩ 0 ((pre ++ [x]) ++ rest) = runS g' (pre ++ [x]).length rest := fun rest => by
  rw [List.append_assoc, h, List.length_append]
  show (match lineS g x with | none => _ | some g' => _) = _
  rw [hx]; rfl
theorem runS_wrong {g : Scm} {pre : List (List UInt8)} {x : List UInt8} (h : ∀ rest, runS ⟨[], []⟩ 0 (pre ++ rest) = runS g pre.length rest) (hx : lineS g x = none) : ∀ rest, runS ⟨[], []⟩ 0 ((pre ++ [x]) ++ rest) = .error pre.length := fun rest => by
  rw [List.append_assoc, h]
  show (match lineS g x with | none => _ | some g' => _) = _
  rw [hx]
section
variable {b : Nat} {g : Scm} {An At : Option Addr} {cn ct : Nat} {xs : List Value} {pre : List (List UInt8)} {W W5 : World}
/-- What an append onto the nodes leaves of the rest. -/
theorem RdS.after_kinds (h : RdS b g An At cn ct xs pre W) (hg : W.grownBy W5 (Value.slice An g.kinds.length cn).ownBlock) :
    W5.heap[b]? = some (.cells #[.slice none 0 0, .slice none 0 0] 25 (0, 0)) ∧ W5.heap[b + 1]? = some (.cells #[.int .i64 0] 3 (0, 0)) ∧ W5.heap[b + 1 + 1]? = some (.cells #[.nilIface] 27 (0, 0)) ∧
    W5.heap[b + 1 + 1 + 1]? = some (.cells #[.slice An g.kinds.length cn, .slice At g.bonds.length ct] 25 (0, 0)) ∧ W5.heap[b + 1 + 1 + 1 + 1]? = some (.cells #[.int .i64 (pre.length : Nat)] 3 (0, 0)) ∧
    (∃ s, W5.heap[b + 1 + 1 + 1 + 1 + 1]? = some (.cells #[s] 9 (0, 0))) ∧ OwnKnds W5 (b + 6) g.kinds xs ∧ Own W5 b 37 5 (.slice At g.bonds.length ct) g.bonds.length (g.bonds.flatMap Bnd.enc) := by
  obtain ⟨s, hq⟩ := h.qb
  exact ⟨grown_block hg h.r0 (h.on.ne_block h.r0 (by decide)), grown_block hg h.r1 (h.on.ne_block h.r1 (by decide)), grown_block hg h.r2 (h.on.ne_block h.r2 (by decide)), grown_block hg h.gb (h.on.ne_block h.gb (by decide)),
    grown_block hg h.nb (h.on.ne_block h.nb (by decide)), ⟨s, grown_block hg hq (h.on.ne_block hq (by decide))⟩, h.nn.same (.grown h.on (by decide) hg) (.grown h.on (by decide) hg), h.ot.same (.grown h.on (by decide) hg)⟩
theorem RdS.after_bonds (h : RdS b g An At cn ct xs pre W) (hg : W.grownBy W5 (Value.slice At g.bonds.length ct).ownBlock) :
    W5.heap[b]? = some (.cells #[.slice none 0 0, .slice none 0 0] 25 (0, 0)) ∧ W5.heap[b + 1]? = some (.cells #[.int .i64 0] 3 (0, 0)) ∧ W5.heap[b + 1 + 1]? = some (.cells #[.nilIface] 27 (0, 0)) ∧
    W5.heap[b + 1 + 1 + 1]? = some (.cells #[.slice An g.kinds.length cn, .slice At g.bonds.length ct] 25 (0, 0)) ∧ W5.heap[b + 1 + 1 + 1 + 1]? = some (.cells #[.int .i64 (pre.length : Nat)] 3 (0, 0)) ∧
    (∃ s, W5.heap[b + 1 + 1 + 1 + 1 + 1]? = some (.cells #[s] 9 (0, 0))) ∧ OwnKnds W5 (b + 6) g.kinds xs ∧ Own W5 b 35 3 (.slice An g.kinds.length cn) g.kinds.length xs := by
  obtain ⟨s, hq⟩ := h.qb
  exact ⟨grown_block hg h.r0 (h.ot.ne_block h.r0 (by decide)), grown_block hg h.r1 (h.ot.ne_block h.r1 (by decide)), grown_block hg h.r2 (h.ot.ne_block h.r2 (by decide)), grown_block hg h.gb (h.ot.ne_block h.gb (by decide)),
    grown_block hg h.nb (h.ot.ne_block h.nb (by decide)), ⟨s, grown_block hg hq (h.ot.ne_block hq (by decide))⟩, h.nn.same (.grown h.ot (by decide) hg) (.grown h.ot (by decide) hg), h.on.same (.grown h.ot (by decide) hg)⟩
/-- The results are laid: a line is wrong. -/
theorem rxS_of {P : List (List UInt8)} {k : Nat} (r0 : W.heap[b]? = some (.cells #[.slice none 0 0, .slice none 0 0] 25 (0, 0))) (r1 : W.heap[b + 1]? = some (.cells #[.int .i64 0] 3 (0, 0))) (r2 : W.heap[b + 1 + 1]? = some (.cells #[.nilIface] 27 (0, 0)))
    (qb : ∃ s, W.heap[b + 1 + 1 + 1 + 1 + 1]? = some (.cells #[s] 9 (0, 0))) (hk : ∀ rest, runS ⟨[], []⟩ 0 (P ++ rest) = .error k) :
    RxS b P ((((W.setCell ⟨b, 0, none⟩ (.slice none 0 0)).setCell ⟨b, 1, none⟩ (.slice none 0 0)).setCell ⟨b + 1, 0, none⟩ (.int .i64 k)).setCell ⟨b + 1 + 1, 0, none⟩ (.iface 118 (.int .i64 2))).drew := by
  obtain ⟨s, hq⟩ := qb
  refine RxS.all ?_ (.drewN _ 1)
  have a0 := setCell_block (setCell_block r0 0 (.slice none 0 0)) 1 (.slice none 0 0)
  have a1 := setCell_other (setCell_other r1 (q := b) (by omega) 0 (.slice none 0 0)) (q := b) (by omega) 1 (.slice none 0 0)
  have a2 := setCell_other (setCell_other r2 (q := b) (by omega) 0 (.slice none 0 0)) (q := b) (by omega) 1 (.slice none 0 0)
  have aq := setCell_other (setCell_other hq (q := b) (by omega) 0 (.slice none 0 0)) (q := b) (by omega) 1 (.slice none 0 0)
  have b1 := setCell_block a1 0 (.int .i64 k)
  exact ⟨setCell_other (setCell_other a0 (by omega) _ _) (by omega) _ _, ⟨k, setCell_other b1 (by omega) _ _, hk⟩, setCell_block (setCell_other a2 (by omega) _ _) 0 _, ⟨s, setCell_other (setCell_other aq (by omega) _ _) (by omega) _ _⟩⟩
/-- A line more: what was appended is stored, and the number of lines. -/
theorem RdS.store {g' : Scm} {A9 A8 : Option Addr} {c9 c8 : Nat} {ys : List Value} {P : List (List UInt8)} {i : Nat} {u : Value} (hlow : b < W.heap.size)
    (r0 : W.heap[b]? = some (.cells #[.slice none 0 0, .slice none 0 0] 25 (0, 0))) (r1 : W.heap[b + 1]? = some (.cells #[.int .i64 0] 3 (0, 0))) (r2 : W.heap[b + 1 + 1]? = some (.cells #[.nilIface] 27 (0, 0)))
    (gb : W.heap[b + 1 + 1 + 1]? = some (.cells #[.slice An g.kinds.length cn, .slice At g.bonds.length ct] 25 (0, 0))) (nb : W.heap[b + 1 + 1 + 1 + 1]? = some (.cells #[.int .i64 (pre.length : Nat)] 3 (0, 0)))
    (qb : ∃ s, W.heap[b + 1 + 1 + 1 + 1 + 1]? = some (.cells #[s] 9 (0, 0)))
    (hu : (#[Value.slice An g.kinds.length cn, Value.slice At g.bonds.length ct]).setIfInBounds i u = #[.slice A9 g'.kinds.length c9, .slice A8 g'.bonds.length c8])
    (on : Own W b 35 3 (.slice A9 g'.kinds.length c9) g'.kinds.length ys) (nn : OwnKnds W (b + 6) g'.kinds ys) (ot : Own W b 37 5 (.slice A8 g'.bonds.length c8) g'.bonds.length (g'.bonds.flatMap Bnd.enc)) (tt : ∀ t ∈ g'.bonds, t.ok)
    (run : ∀ rest, runS ⟨[], []⟩ 0 (P ++ rest) = runS g' P.length rest) :
    RdS b g' A9 A8 c9 c8 ys P ((W.setCell ⟨b + 1 + 1 + 1, i, none⟩ u).setCell ⟨b + 1 + 1 + 1 + 1, 0, none⟩ (.int .i64 (P.length : Nat))) := by
  obtain ⟨s, hq⟩ := qb
  have g1 := setCell_block gb i u
  rw [hu] at g1
  have n1 := setCell_other nb (q := b + 1 + 1 + 1) (by omega) i u
  have s1 : ∀ T, 25 ≠ T → Same T W (W.setCell ⟨b + 1 + 1 + 1, i, none⟩ u) := fun T hT => .setCell (p := ⟨b + 1 + 1 + 1, i, none⟩) gb hT u
  have s2 : ∀ T, 3 ≠ T → Same T (W.setCell ⟨b + 1 + 1 + 1, i, none⟩ u) ((W.setCell ⟨b + 1 + 1 + 1, i, none⟩ u).setCell ⟨b + 1 + 1 + 1 + 1, 0, none⟩ (.int .i64 (P.length : Nat))) := fun T hT => .setCell (p := ⟨b + 1 + 1 + 1 + 1, 0, none⟩) n1 hT _
  have s3 : ∀ T, 25 ≠ T → 3 ≠ T → Same T W ((W.setCell ⟨b + 1 + 1 + 1, i, none⟩ u).setCell ⟨b + 1 + 1 + 1 + 1, 0, none⟩ (.int .i64 (P.length : Nat))) := fun T h1 h2 => (s1 T h1).trans (s2 T h2)
  exact ⟨setCell_other (setCell_other r0 (by omega) _ _) (by omega) _ _, setCell_other (setCell_other r1 (by omega) _ _) (by omega) _ _, setCell_other (setCell_other r2 (by omega) _ _) (by omega) _ _,
    setCell_other g1 (by omega) _ _, setCell_block n1 0 _, ⟨s, setCell_other (setCell_other hq (by omega) _ _) (by omega) _ _⟩,
    on.same (s3 _ (by decide) (by decide)), nn.same (s3 _ (by decide) (by decide)) (s3 _ (by decide) (by decide)), ot.same (s3 _ (by decide) (by decide)), tt, run, by simp [World.setCell]; exact hlow⟩
end

theorem lineS_eq {g : Scm} {x : List UInt8} {sf : Bool} {P : List (List UInt8)} (h1 : Lib.hasSuffix x [10] = sf) (h2 : Lib.split (Lib.trimSuffix x [10]) [32] = P) :
    lineS g x = if sf = true then (if P.head? = some kindW ∧ g.bonds.length = 0 then (readKndL P).map fun k => ⟨g.kinds ++ [k], g.bonds⟩ else if P.head? = some bondW then (readBndL P).map fun b => ⟨g.kinds, g.bonds ++ [b]⟩ else none) else none := by
  subst h1; subst h2; rfl
theorem scmR_none (w : World) : ScmR w (.slice none 0 0) (.slice none 0 0) ⟨[], []⟩ := ⟨Sl.nil 0 (Nat.zero_le _) none, Sl.nil 0 (Nat.zero_le _) none⟩
section
variable {b B : Nat} {w W X V : World} {g : Scm} {An At : Option Addr} {cn ct : Nat} {xs : List Value} {pre : List (List UInt8)}
theorem wrong_endS {P : List (List UInt8)} {k : Nat} (hB : b + 6 ≤ B) (hk : KeepsFrom B W X) (hb : Below b w X)
    (r0 : X.heap[b]? = some (.cells #[.slice none 0 0, .slice none 0 0] 25 (0, 0))) (r1 : X.heap[b + 1]? = some (.cells #[.int .i64 0] 3 (0, 0))) (r2 : X.heap[b + 1 + 1]? = some (.cells #[.nilIface] 27 (0, 0)))
    (qb : ∃ s, X.heap[b + 1 + 1 + 1 + 1 + 1]? = some (.cells #[s] 9 (0, 0))) (hk2 : ∀ rest, runS ⟨[], []⟩ 0 (P ++ rest) = .error k) {Z : World}
    (hZ : Z = ((((X.setCell ⟨b, 0, none⟩ (.slice none 0 0)).setCell ⟨b, 1, none⟩ (.slice none 0 0)).setCell ⟨b + 1, 0, none⟩ (.int .i64 k)).setCell ⟨b + 1 + 1, 0, none⟩ (.iface 118 (.int .i64 2))).drew) :
    KeepsFrom B W Z ∧ Code.ret = Code.ret ∧ RxS b P Z ∧ Below b w Z := by
  subst hZ
  refine ⟨?_, rfl, rxS_of r0 r1 r2 qb hk2, ?_⟩
  · exact KeepsFrom.trans (((((hk.trans (KeepsFrom.setCell (q := b) _ (by omega) 0 (.slice none 0 0))).trans (KeepsFrom.setCell (q := b) _ (by omega) 1 (.slice none 0 0))).trans (KeepsFrom.setCell (q := b + 1) _ (by omega) 0 (.int .i64 k))).trans (KeepsFrom.setCell (q := b + 1 + 1) _ (by omega) 0 (.iface 118 (.int .i64 2))))) (KeepsFrom.below (below_drewN (Below.refl _ _) 1))
  · exact below_drewN ((((hb.setCell (p := ⟨b, 0, none⟩) (Nat.le_refl _) _).setCell (p := ⟨b, 1, none⟩) (Nat.le_refl _) _).setCell (p := ⟨b + 1, 0, none⟩) (by show b ≤ b + 1; omega) _).setCell (p := ⟨b + 1 + 1, 0, none⟩) (by show b ≤ b + 1 + 1; omega) _) 1
theorem RdS.app_k (h0 : RdS b g An At cn ct xs pre W) (hb : Below W.heap.size W V) (hg : V.grownBy X (Value.slice An g.kinds.length cn).ownBlock) :
    KeepsFrom B W X ∧ Below b W X ∧ X.heap[b + 1 + 1 + 1 + 1 + 1]? = W.heap[b + 1 + 1 + 1 + 1 + 1]? := by
  have hV := h0.all (.below hb)
  have hlow := h0.low
  obtain ⟨s, hq⟩ := h0.qb
  obtain ⟨s2, hq2⟩ := hV.qb
  have hlt := (Array.getElem?_eq_some_iff.1 hq).1
  exact ⟨(KeepsFrom.below hb).trans (KeepsFrom.append hV.on hg), (hb.mono (by omega)).grown hg (by have := hb.size; omega) (fun k e => (hV.on.lt k e).1),
    (hg.block _ (Array.getElem?_eq_some_iff.1 hq2).1 (hV.on.ne_block hq2 (by decide))).trans (hb.block _ hlt)⟩
theorem RdS.app_b (h0 : RdS b g An At cn ct xs pre W) (hb : Below W.heap.size W V) (hg : V.grownBy X (Value.slice At g.bonds.length ct).ownBlock) :
    KeepsFrom B W X ∧ Below b W X ∧ X.heap[b + 1 + 1 + 1 + 1 + 1]? = W.heap[b + 1 + 1 + 1 + 1 + 1]? := by
  have hV := h0.all (.below hb)
  have hlow := h0.low
  obtain ⟨s, hq⟩ := h0.qb
  obtain ⟨s2, hq2⟩ := hV.qb
  have hlt := (Array.getElem?_eq_some_iff.1 hq).1
  exact ⟨(KeepsFrom.below hb).trans (KeepsFrom.append hV.ot hg), (hb.mono (by omega)).grown hg (by have := hb.size; omega) (fun k e => (hV.ot.lt k e).1),
    (hg.block _ (Array.getElem?_eq_some_iff.1 hq2).1 (hV.ot.ne_block hq2 (by decide))).trans (hb.block _ hlt)⟩
end
section
variable {b D : Nat} {w Z : World}
/-- The results, behind the taking of the deferred calls. -/
theorem res_cellsS {vn vt n e : Value} {o : Obj} (r0 : Z.heap[b]? = some (.cells #[vn, vt] 25 (0, 0))) (r1 : Z.heap[b + 1]? = some (.cells #[n] 3 (0, 0))) (r2 : Z.heap[b + 1 + 1]? = some (.cells #[e] 27 (0, 0))) (hD : b + 6 ≤ D) :
    (Z.putObj D o).cell? ⟨b, 0, none⟩ = some vn ∧ (Z.putObj D o).cell? ⟨b, 1, none⟩ = some vt ∧ (Z.putObj D o).cell? ⟨b + 1, 0, none⟩ = some n ∧ (Z.putObj D o).cell? ⟨b + 1 + 1, 0, none⟩ = some e :=
  ⟨block_cell ((World.putObj_heap_other (by omega)).trans r0) 0, block_cell ((World.putObj_heap_other (by omega)).trans r0) 1, block_cell ((World.putObj_heap_other (by omega)).trans r1) 0, block_cell ((World.putObj_heap_other (by omega)).trans r2) 0⟩
theorem ScmR.setS {W : World} {g : Scm} {An At : Option Addr} {cn ct : Nat} {xs : List Value} {pre : List (List UInt8)} (h : RdS b g An At cn ct xs pre W) (hs : ∀ T', 25 ≠ T' → 3 ≠ T' → 27 ≠ T' → Same T' W Z) : ScmR Z (.slice An g.kinds.length cn) (.slice At g.bonds.length ct) g :=
  ⟨Own.row (L := kndL) (h.on.same (hs _ (by decide) (by decide) (by decide))) (h.nn.same (hs _ (by decide) (by decide) (by decide)) (hs _ (by decide) (by decide) (by decide))).row, Own.bnds (h.ot.same (hs _ (by decide) (by decide) (by decide))) h.tt⟩
/-- Three stores into the results. -/
theorem three_setS {W : World} {a0 a1 a2 a3 n e : Value} {v0 v1 : Value} (r0 : W.heap[b]? = some (.cells #[a0, a1] 25 (0, 0))) (r1 : W.heap[b + 1]? = some (.cells #[a2] 3 (0, 0))) (r2 : W.heap[b + 1 + 1]? = some (.cells #[a3] 27 (0, 0))) (hb : Below b w W) :
    let Y := (((W.setCell ⟨b, 0, none⟩ v0).setCell ⟨b, 1, none⟩ v1).setCell ⟨b + 1, 0, none⟩ n).setCell ⟨b + 1 + 1, 0, none⟩ e
    Y.heap[b]? = some (.cells #[v0, v1] 25 (0, 0)) ∧ Y.heap[b + 1]? = some (.cells #[n] 3 (0, 0)) ∧ Y.heap[b + 1 + 1]? = some (.cells #[e] 27 (0, 0)) ∧ Below b w Y ∧ (∀ k o, b + 3 ≤ k → W.heap[k]? = some o → Y.heap[k]? = some o) ∧ (∀ T', 25 ≠ T' → 3 ≠ T' → 27 ≠ T' → Same T' W Y) := by
  intro Y
  have a0' := setCell_block (setCell_block r0 0 v0) 1 v1
  have a1' := setCell_other (setCell_other r1 (q := b) (by omega) 0 v0) (q := b) (by omega) 1 v1
  have a2' := setCell_other (setCell_other r2 (q := b) (by omega) 0 v0) (q := b) (by omega) 1 v1
  have b1 := setCell_block a1' 0 n
  have b2 := setCell_other a2' (q := b + 1) (by omega) 0 n
  refine ⟨setCell_other (setCell_other a0' (by omega) _ _) (by omega) _ _, setCell_other b1 (by omega) _ _, setCell_block b2 0 _, ?_, ?_, ?_⟩
  · exact (((hb.setCell (p := ⟨b, 0, none⟩) (Nat.le_refl _) _).setCell (p := ⟨b, 1, none⟩) (Nat.le_refl _) _).setCell (p := ⟨b + 1, 0, none⟩) (by show b ≤ b + 1; omega) _).setCell (p := ⟨b + 1 + 1, 0, none⟩) (by show b ≤ b + 1 + 1; omega) _
  · intro k o hk h
    exact setCell_other (setCell_other (setCell_other (setCell_other h (by omega) _ _) (by omega) _ _) (by omega) _ _) (by omega) _ _
  · intro T' h1 h2 h3
    exact (((Same.setCell (p := ⟨b, 0, none⟩) r0 h1 v0).trans (Same.setCell (p := ⟨b, 1, none⟩) (setCell_block r0 0 v0) h1 v1)).trans (Same.setCell (p := ⟨b + 1, 0, none⟩) a1' h2 n)).trans (Same.setCell (p := ⟨b + 1 + 1, 0, none⟩) b2 h3 e)
end
theorem read_okS {l : List UInt8} {g : Scm} {L : List (List UInt8)} {n : Nat} (h : ∀ rest, runS ⟨[], []⟩ 0 (L ++ rest) = runS g n rest) (hL : L = linesL l) : readSE l = (scmE g).2 ∧ readSN l = 0 ∧ readSV l = if (scmE g).2 = 0 then g else ⟨[], []⟩ := by
  have hr : runS ⟨[], []⟩ 0 (linesL l) = .ok g := by rw [← hL]; have := h []; rw [List.append_nil] at this; exact this
  unfold readSE readSN readSV
  rw [hr]
  exact ⟨rfl, rfl, rfl⟩
theorem read_badS {l : List UInt8} {L : List (List UInt8)} {k : Nat} (h : ∀ rest, runS ⟨[], []⟩ 0 (L ++ rest) = .error k) (hL : L <+: linesL l) : readSE l = 2 ∧ readSN l = k ∧ readSV l = ⟨[], []⟩ := by
  obtain ⟨t, ht⟩ := hL
  have hr : runS ⟨[], []⟩ 0 (linesL l) = .error k := by rw [← ht]; exact h t
  unfold readSE readSN readSV
  rw [hr]
  exact ⟨rfl, rfl, rfl⟩
open Go Go.RowKit Go.Shelf

attribute [local go_sem] Oper.semAt_some
set_option maxHeartbeats 1000000 in
theorem lines_in (n : Nat) (s : ByteArray) (w : World) :
    CallsIn Fence.wide n Tryz.prog 52 #[.string s] w fun e w' => e = .returned (.func (.func 103) #[] #[.pointer (some ⟨w.heap.size, 0, none⟩)]) ∧ w' = w.alloc (.cells #[.string s] 9) := by
  refine callsIn_of_wp Tryz.func52 rfl trivial ?_ rfl
  simp only [Tryz.ntmps52, List.size_toArray, List.length_cons, List.length_nil, Nat.reduceAdd, Nat.reduceSub, Array.replicate_succ, Array.replicate_zero, List.push_toArray, List.append_toArray, List.nil_append, List.cons_append]
  gi_wp2
  go_ret
  exact ⟨rfl, rfl⟩
theorem alloc_up {W : World} {o o' : Obj} {k : Nat} (h : W.heap[k]? = some o) : (W.alloc o').heap[k]? = some o :=
  (((Below.refl W.heap.size W).alloc (Nat.le_refl _) o').block _ (Array.getElem?_eq_some_iff.1 h).1).trans h
theorem six_new (w : World) (o0 o1 o2 o3 o4 o5 : Obj) :
    let W := (((((w.alloc o0).alloc o1).alloc o2).alloc o3).alloc o4).alloc o5
    W.heap[w.heap.size]? = some o0 ∧ W.heap[w.heap.size + 1]? = some o1 ∧ W.heap[w.heap.size + 1 + 1]? = some o2 ∧ W.heap[w.heap.size + 1 + 1 + 1]? = some o3 ∧ W.heap[w.heap.size + 1 + 1 + 1 + 1]? = some o4 ∧ W.heap[w.heap.size + 1 + 1 + 1 + 1 + 1]? = some o5 ∧ Below w.heap.size w W ∧ W.heap.size = w.heap.size + 6 := by
  intro W
  have b0 := (Below.refl w.heap.size w).alloc (Nat.le_refl _) o0
  have b1 := b0.alloc b0.size o1
  have b2 := b1.alloc b1.size o2
  have b3 := b2.alloc b2.size o3
  have b4 := b3.alloc b3.size o4
  have b5 := b4.alloc b4.size o5
  refine ⟨?_, ?_, ?_, ?_, ?_, ?_, b5, by simp [W]⟩
  · exact alloc_up (alloc_up (alloc_up (alloc_up (alloc_up (heap_alloc_new _ _)))))
  · exact alloc_up (alloc_up (alloc_up (alloc_up (heap_at_new _ _ _ (by simp)))))
  · exact alloc_up (alloc_up (alloc_up (heap_at_new _ _ _ (by simp))))
  · exact alloc_up (alloc_up (heap_at_new _ _ _ (by simp)))
  · exact alloc_up (heap_at_new _ _ _ (by simp))
  · exact heap_at_new _ _ _ (by simp)
end Go.Proofs.YtdmpkgiijddcdaaGreatDoor
