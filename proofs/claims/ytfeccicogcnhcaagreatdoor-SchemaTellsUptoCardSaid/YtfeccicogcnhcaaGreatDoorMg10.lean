/- Parts: SxI, SxN, SsP, VqP, DgA, VsA. -/
import Derived.Test.YtfeccicogcnhcaaGreatDoorMg09
import Derived.Test.YtfeccicogcnhcaaGreatDoorMg07
import Derived.Test.YtfeccicogcnhcaaGreatDoorMg08
import Derived.Test.YtfeccicogcnhcaaGreatDoorMg03
import Derived.IntWalk
import Derived.Test.YtfeccicogcnhcaaGreatDoorMg04
import Derived.Test.YtfeccicogcnhcaaGreatDoorMg02
/- Plain: what stands between two lines of schema.Parse, and what leaves it true. No condition. -/
namespace Go.Proofs.YtfeccicogcnhcaaGreatDoor
open Go Go.RowKit

theorem OwnKnds.set_low {w : World} {B q : Nat} (hq : q < B) (i : Nat) (v : Value) : ∀ {l : List Knd} {xs : List Value}, OwnKnds w B l xs → OwnKnds (w.setCell ⟨q, i, none⟩ v) B l xs
  | [], _, h => h
  | _ :: _, _, h => by
    obtain ⟨u, x, ys, rfl, a1, a2, a3, a4, a5, a6⟩ := h
    exact ⟨u, x, ys, rfl, a1, a2, a3.setCell ⟨q, i, none⟩ v (fun e => by have := (a3.lt q e).1; omega), a4, a5.setCell ⟨q, i, none⟩ v (fun e => by have := (a5.lt q e).1; omega), a6.set_low hq i v⟩
theorem OwnKnds.mono {w : World} {B B' : Nat} (hB : B' ≤ B) : ∀ {l : List Knd} {xs : List Value}, OwnKnds w B l xs → OwnKnds w B' l xs
  | [], _, h => h
  | _ :: _, _, h => by
    obtain ⟨u, x, ys, rfl, a1, a2, a3, a4, a5, a6⟩ := h
    exact ⟨u, x, ys, rfl, a1, a2, a3.mono hB, a4, a5.mono hB, a6.mono hB⟩
/-- What stands between two lines: the results' boxes, the graph and the number of lines in theirs, the iterator's box. -/
structure RdS (b : Nat) (g : Scm) (An At : Option Addr) (cn ct : Nat) (xs : List Value) (pre : List (List UInt8)) (W : World) : Prop where
  r0 : W.heap[b]? = some (.cells #[.slice none 0 0, .slice none 0 0] 25 (0, 0))
  r1 : W.heap[b + 1]? = some (.cells #[.int .i64 0] 3 (0, 0))
  r2 : W.heap[b + 1 + 1]? = some (.cells #[.nilIface] 29 (0, 0))
  gb : W.heap[b + 1 + 1 + 1]? = some (.cells #[.slice An g.kinds.length cn, .slice At g.bonds.length ct] 25 (0, 0))
  nb : W.heap[b + 1 + 1 + 1 + 1]? = some (.cells #[.int .i64 (pre.length : Nat)] 3 (0, 0))
  qb : ∃ s, W.heap[b + 1 + 1 + 1 + 1 + 1]? = some (.cells #[s] 9 (0, 0))
  on : Own W b 59 3 (.slice An g.kinds.length cn) g.kinds.length xs
  nn : OwnKnds W (b + 6) g.kinds xs
  ot : Own W b 40 5 (.slice At g.bonds.length ct) g.bonds.length (g.bonds.flatMap Bnd.enc)
  tt : ∀ t ∈ g.bonds, t.ok
  run : ∀ rest, runS ⟨[], []⟩ 0 (pre ++ rest) = runS g pre.length rest
  low : b < W.heap.size
theorem RdS.all {b : Nat} {g : Scm} {An At : Option Addr} {cn ct : Nat} {xs : List Value} {pre : List (List UInt8)} {W W' : World} (h : RdS b g An At cn ct xs pre W) (hs : AllSame W W') : RdS b g An At cn ct xs pre W' where
  r0 := hs _ _ _ _ h.r0
  r1 := hs _ _ _ _ h.r1
  r2 := hs _ _ _ _ h.r2
  gb := hs _ _ _ _ h.gb
  nb := hs _ _ _ _ h.nb
  qb := by obtain ⟨s, hq⟩ := h.qb; exact ⟨s, hs _ _ _ _ hq⟩
  on := h.on.same (hs.same _)
  nn := h.nn.same (hs.same _) (hs.same _)
  ot := h.ot.same (hs.same _)
  tt := h.tt
  run := h.run
  low := (Array.getElem?_eq_some_iff.1 (hs _ _ _ _ h.r0)).1
/-- The iterator's own steps leave it true. -/
theorem RdS.step {b : Nat} {g : Scm} {An At : Option Addr} {cn ct : Nat} {xs : List Value} {pre : List (List UInt8)} {X Y : World} (h : RdS b g An At cn ct xs pre X) (hs : LStep (b + 1 + 1 + 1 + 1 + 1) X Y) : RdS b g An At cn ct xs pre Y := by
  rcases hs with ⟨m, rfl⟩ | ⟨v, m, rfl⟩
  · exact h.all (.drewN _ _)
  · refine RdS.all (W := X.setCell ⟨b + 1 + 1 + 1 + 1 + 1, 0, none⟩ v) ?_ (.drewN _ _)
    obtain ⟨s, hq⟩ := h.qb
    have hS : ∀ T, 9 ≠ T → Same T X (X.setCell ⟨b + 1 + 1 + 1 + 1 + 1, 0, none⟩ v) := fun T hT => .setCell (p := ⟨b + 1 + 1 + 1 + 1 + 1, 0, none⟩) hq hT v
    exact ⟨setCell_other h.r0 (by omega) _ _, setCell_other h.r1 (by omega) _ _, setCell_other h.r2 (by omega) _ _, setCell_other h.gb (by omega) _ _, setCell_other h.nb (by omega) _ _, ⟨v, setCell_block hq 0 v⟩,
      h.on.same (hS _ (by decide)), (h.nn.set_low (q := b + 1 + 1 + 1 + 1 + 1) (by omega) 0 v), h.ot.same (hS _ (by decide)), h.tt, h.run, by simp [World.setCell]; exact h.low⟩
/-- The results of a text whose line is wrong. -/
structure RxS (b : Nat) (pre : List (List UInt8)) (W : World) : Prop where
  r0 : W.heap[b]? = some (.cells #[.slice none 0 0, .slice none 0 0] 25 (0, 0))
  k : ∃ k : Nat, W.heap[b + 1]? = some (.cells #[.int .i64 k] 3 (0, 0)) ∧ ∀ rest, runS ⟨[], []⟩ 0 (pre ++ rest) = .error k
  r2 : W.heap[b + 1 + 1]? = some (.cells #[.iface 54 (.int .i64 2)] 29 (0, 0))
  qb : ∃ s, W.heap[b + 1 + 1 + 1 + 1 + 1]? = some (.cells #[s] 9 (0, 0))
theorem RxS.all {b : Nat} {pre : List (List UInt8)} {W W' : World} (h : RxS b pre W) (hs : AllSame W W') : RxS b pre W' where
  r0 := hs _ _ _ _ h.r0
  k := by obtain ⟨k, h1, h2⟩ := h.k; exact ⟨k, hs _ _ _ _ h1, h2⟩
  r2 := hs _ _ _ _ h.r2
  qb := by obtain ⟨s, hq⟩ := h.qb; exact ⟨s, hs _ _ _ _ hq⟩
theorem RxS.step {b : Nat} {pre : List (List UInt8)} {X Y : World} (h : RxS b pre X) (hs : LStep (b + 1 + 1 + 1 + 1 + 1) X Y) : RxS b pre Y := by
  rcases hs with ⟨m, rfl⟩ | ⟨v, m, rfl⟩
  · exact h.all (.drewN _ _)
  · obtain ⟨k, h1, h2⟩ := h.k
    obtain ⟨s, hq⟩ := h.qb
    exact ⟨setCell_other h.r0 (by omega) _ _, ⟨k, setCell_other h1 (by omega) _ _, h2⟩, setCell_other h.r2 (by omega) _ _, ⟨v, setCell_block hq 0 v⟩⟩
/-- A line more. -/
theorem runS_more {g g' : Scm} {pre : List (List UInt8)} {x : List UInt8} (h : ∀ rest, runS ⟨[], []⟩ 0 (pre ++ rest) = runS g pre.length rest) (hx : lineS g x = some g') : ∀ rest, runS ⟨[], []⟩ 0 ((pre ++ [x]) ++ rest) = runS g' (pre ++ [x]).length rest := fun rest => by
  rw [List.append_assoc, h, List.length_append]
  show (match lineS g x with | none => _ | some g' => _) = _
  rw [hx]; rfl
theorem runS_wrong {g : Scm} {pre : List (List UInt8)} {x : List UInt8} (h : ∀ rest, runS ⟨[], []⟩ 0 (pre ++ rest) = runS g pre.length rest) (hx : lineS g x = none) : ∀ rest, runS ⟨[], []⟩ 0 ((pre ++ [x]) ++ rest) = .error pre.length := fun rest => by
  rw [List.append_assoc, h]
  show (match lineS g x with | none => _ | some g' => _) = _
  rw [hx]
section
variable {b : Nat} {g : Scm} {An At : Option Addr} {cn ct : Nat} {xs : List Value} {pre : List (List UInt8)} {W W5 : World}
/-- What an append onto the nodes leaves of the rest. -/
theorem RdS.after_kinds (h : RdS b g An At cn ct xs pre W) (hg : W.grownBy W5 (Value.slice An g.kinds.length cn).ownBlock) :
    W5.heap[b]? = some (.cells #[.slice none 0 0, .slice none 0 0] 25 (0, 0)) ∧ W5.heap[b + 1]? = some (.cells #[.int .i64 0] 3 (0, 0)) ∧ W5.heap[b + 1 + 1]? = some (.cells #[.nilIface] 29 (0, 0)) ∧
    W5.heap[b + 1 + 1 + 1]? = some (.cells #[.slice An g.kinds.length cn, .slice At g.bonds.length ct] 25 (0, 0)) ∧ W5.heap[b + 1 + 1 + 1 + 1]? = some (.cells #[.int .i64 (pre.length : Nat)] 3 (0, 0)) ∧
    (∃ s, W5.heap[b + 1 + 1 + 1 + 1 + 1]? = some (.cells #[s] 9 (0, 0))) ∧ OwnKnds W5 (b + 6) g.kinds xs ∧ Own W5 b 40 5 (.slice At g.bonds.length ct) g.bonds.length (g.bonds.flatMap Bnd.enc) := by
  obtain ⟨s, hq⟩ := h.qb
  exact ⟨grown_block hg h.r0 (h.on.ne_block h.r0 (by decide)), grown_block hg h.r1 (h.on.ne_block h.r1 (by decide)), grown_block hg h.r2 (h.on.ne_block h.r2 (by decide)), grown_block hg h.gb (h.on.ne_block h.gb (by decide)),
    grown_block hg h.nb (h.on.ne_block h.nb (by decide)), ⟨s, grown_block hg hq (h.on.ne_block hq (by decide))⟩, h.nn.same (.grown h.on (by decide) hg) (.grown h.on (by decide) hg), h.ot.same (.grown h.on (by decide) hg)⟩
theorem RdS.after_bonds (h : RdS b g An At cn ct xs pre W) (hg : W.grownBy W5 (Value.slice At g.bonds.length ct).ownBlock) :
    W5.heap[b]? = some (.cells #[.slice none 0 0, .slice none 0 0] 25 (0, 0)) ∧ W5.heap[b + 1]? = some (.cells #[.int .i64 0] 3 (0, 0)) ∧ W5.heap[b + 1 + 1]? = some (.cells #[.nilIface] 29 (0, 0)) ∧
    W5.heap[b + 1 + 1 + 1]? = some (.cells #[.slice An g.kinds.length cn, .slice At g.bonds.length ct] 25 (0, 0)) ∧ W5.heap[b + 1 + 1 + 1 + 1]? = some (.cells #[.int .i64 (pre.length : Nat)] 3 (0, 0)) ∧
    (∃ s, W5.heap[b + 1 + 1 + 1 + 1 + 1]? = some (.cells #[s] 9 (0, 0))) ∧ OwnKnds W5 (b + 6) g.kinds xs ∧ Own W5 b 59 3 (.slice An g.kinds.length cn) g.kinds.length xs := by
  obtain ⟨s, hq⟩ := h.qb
  exact ⟨grown_block hg h.r0 (h.ot.ne_block h.r0 (by decide)), grown_block hg h.r1 (h.ot.ne_block h.r1 (by decide)), grown_block hg h.r2 (h.ot.ne_block h.r2 (by decide)), grown_block hg h.gb (h.ot.ne_block h.gb (by decide)),
    grown_block hg h.nb (h.ot.ne_block h.nb (by decide)), ⟨s, grown_block hg hq (h.ot.ne_block hq (by decide))⟩, h.nn.same (.grown h.ot (by decide) hg) (.grown h.ot (by decide) hg), h.on.same (.grown h.ot (by decide) hg)⟩
/-- The results are laid: a line is wrong. -/
theorem rxS_of {P : List (List UInt8)} {k : Nat} (r0 : W.heap[b]? = some (.cells #[.slice none 0 0, .slice none 0 0] 25 (0, 0))) (r1 : W.heap[b + 1]? = some (.cells #[.int .i64 0] 3 (0, 0))) (r2 : W.heap[b + 1 + 1]? = some (.cells #[.nilIface] 29 (0, 0)))
    (qb : ∃ s, W.heap[b + 1 + 1 + 1 + 1 + 1]? = some (.cells #[s] 9 (0, 0))) (hk : ∀ rest, runS ⟨[], []⟩ 0 (P ++ rest) = .error k) :
    RxS b P ((((W.setCell ⟨b, 0, none⟩ (.slice none 0 0)).setCell ⟨b, 1, none⟩ (.slice none 0 0)).setCell ⟨b + 1, 0, none⟩ (.int .i64 k)).setCell ⟨b + 1 + 1, 0, none⟩ (.iface 54 (.int .i64 2))).drew := by
  obtain ⟨s, hq⟩ := qb
  refine RxS.all ?_ (.drewN _ 1)
  have a0 := setCell_block (setCell_block r0 0 (.slice none 0 0)) 1 (.slice none 0 0)
  have a1 := setCell_other (setCell_other r1 (q := b) (by omega) 0 (.slice none 0 0)) (q := b) (by omega) 1 (.slice none 0 0)
  have a2 := setCell_other (setCell_other r2 (q := b) (by omega) 0 (.slice none 0 0)) (q := b) (by omega) 1 (.slice none 0 0)
  have aq := setCell_other (setCell_other hq (q := b) (by omega) 0 (.slice none 0 0)) (q := b) (by omega) 1 (.slice none 0 0)
  have b1 := setCell_block a1 0 (.int .i64 k)
  exact ⟨setCell_other (setCell_other a0 (by omega) _ _) (by omega) _ _, ⟨k, setCell_other b1 (by omega) _ _, hk⟩, setCell_block (setCell_other a2 (by omega) _ _) 0 _, ⟨s, setCell_other (setCell_other aq (by omega) _ _) (by omega) _ _⟩⟩
/-- A line more: what was appended is stored, and the number of lines. -/
theorem RdS.store {g' : Scm} {A9 A8 : Option Addr} {c9 c8 : Nat} {ys : List Value} {P : List (List UInt8)} {i : Nat} {u : Value} (hlow : b < W.heap.size)
    (r0 : W.heap[b]? = some (.cells #[.slice none 0 0, .slice none 0 0] 25 (0, 0))) (r1 : W.heap[b + 1]? = some (.cells #[.int .i64 0] 3 (0, 0))) (r2 : W.heap[b + 1 + 1]? = some (.cells #[.nilIface] 29 (0, 0)))
    (gb : W.heap[b + 1 + 1 + 1]? = some (.cells #[.slice An g.kinds.length cn, .slice At g.bonds.length ct] 25 (0, 0))) (nb : W.heap[b + 1 + 1 + 1 + 1]? = some (.cells #[.int .i64 (pre.length : Nat)] 3 (0, 0)))
    (qb : ∃ s, W.heap[b + 1 + 1 + 1 + 1 + 1]? = some (.cells #[s] 9 (0, 0)))
    (hu : (#[Value.slice An g.kinds.length cn, Value.slice At g.bonds.length ct]).setIfInBounds i u = #[.slice A9 g'.kinds.length c9, .slice A8 g'.bonds.length c8])
    (on : Own W b 59 3 (.slice A9 g'.kinds.length c9) g'.kinds.length ys) (nn : OwnKnds W (b + 6) g'.kinds ys) (ot : Own W b 40 5 (.slice A8 g'.bonds.length c8) g'.bonds.length (g'.bonds.flatMap Bnd.enc)) (tt : ∀ t ∈ g'.bonds, t.ok)
    (run : ∀ rest, runS ⟨[], []⟩ 0 (P ++ rest) = runS g' P.length rest) :
    RdS b g' A9 A8 c9 c8 ys P ((W.setCell ⟨b + 1 + 1 + 1, i, none⟩ u).setCell ⟨b + 1 + 1 + 1 + 1, 0, none⟩ (.int .i64 (P.length : Nat))) := by
  obtain ⟨s, hq⟩ := qb
  have g1 := setCell_block gb i u
  rw [hu] at g1
  have n1 := setCell_other nb (q := b + 1 + 1 + 1) (by omega) i u
  have s1 : ∀ T, 25 ≠ T → Same T W (W.setCell ⟨b + 1 + 1 + 1, i, none⟩ u) := fun T hT => .setCell (p := ⟨b + 1 + 1 + 1, i, none⟩) gb hT u
  have s2 : ∀ T, 3 ≠ T → Same T (W.setCell ⟨b + 1 + 1 + 1, i, none⟩ u) ((W.setCell ⟨b + 1 + 1 + 1, i, none⟩ u).setCell ⟨b + 1 + 1 + 1 + 1, 0, none⟩ (.int .i64 (P.length : Nat))) := fun T hT => .setCell (p := ⟨b + 1 + 1 + 1 + 1, 0, none⟩) n1 hT _
  have s3 : ∀ T, 25 ≠ T → 3 ≠ T → Same T W ((W.setCell ⟨b + 1 + 1 + 1, i, none⟩ u).setCell ⟨b + 1 + 1 + 1 + 1, 0, none⟩ (.int .i64 (P.length : Nat))) := fun T h1 h2 => (s1 T h1).trans (s2 T h2)
  exact ⟨setCell_other (setCell_other r0 (by omega) _ _) (by omega) _ _, setCell_other (setCell_other r1 (by omega) _ _) (by omega) _ _, setCell_other (setCell_other r2 (by omega) _ _) (by omega) _ _,
    setCell_other g1 (by omega) _ _, setCell_block n1 0 _, ⟨s, setCell_other (setCell_other hq (by omega) _ _) (by omega) _ _⟩,
    on.same (s3 _ (by decide) (by decide)), nn.same (s3 _ (by decide) (by decide)) (s3 _ (by decide) (by decide)), ot.same (s3 _ (by decide) (by decide)), tt, run, by simp [World.setCell]; exact hlow⟩
end

theorem lineS_eq {g : Scm} {x : List UInt8} {sf : Bool} {P : List (List UInt8)} (h1 : Lib.hasSuffix x [10] = sf) (h2 : Lib.split (Lib.trimSuffix x [10]) [32] = P) :
    lineS g x = if sf = true then (if P.head? = some kindW ∧ g.bonds.length = 0 then (readKndL P).map fun k => ⟨g.kinds ++ [k], g.bonds⟩ else if P.head? = some bondW then (readBndL P).map fun b => ⟨g.kinds, g.bonds ++ [b]⟩ else none) else none := by
  subst h1; subst h2; rfl
theorem scmR_none (w : World) : ScmR w (.slice none 0 0) (.slice none 0 0) ⟨[], []⟩ := ⟨Sl.nil 0 (Nat.zero_le _) none, Sl.nil 0 (Nat.zero_le _) none⟩
section
variable {b B : Nat} {w W X V : World} {g : Scm} {An At : Option Addr} {cn ct : Nat} {xs : List Value} {pre : List (List UInt8)}
theorem wrong_endS {P : List (List UInt8)} {k : Nat} (hB : b + 6 ≤ B) (hk : KeepsFrom B W X) (hb : Below b w X)
    (r0 : X.heap[b]? = some (.cells #[.slice none 0 0, .slice none 0 0] 25 (0, 0))) (r1 : X.heap[b + 1]? = some (.cells #[.int .i64 0] 3 (0, 0))) (r2 : X.heap[b + 1 + 1]? = some (.cells #[.nilIface] 29 (0, 0)))
    (qb : ∃ s, X.heap[b + 1 + 1 + 1 + 1 + 1]? = some (.cells #[s] 9 (0, 0))) (hk2 : ∀ rest, runS ⟨[], []⟩ 0 (P ++ rest) = .error k) {Z : World}
    (hZ : Z = ((((X.setCell ⟨b, 0, none⟩ (.slice none 0 0)).setCell ⟨b, 1, none⟩ (.slice none 0 0)).setCell ⟨b + 1, 0, none⟩ (.int .i64 k)).setCell ⟨b + 1 + 1, 0, none⟩ (.iface 54 (.int .i64 2))).drew) :
    KeepsFrom B W Z ∧ Code.ret = Code.ret ∧ RxS b P Z ∧ Below b w Z := by
  subst hZ
  refine ⟨?_, rfl, rxS_of r0 r1 r2 qb hk2, ?_⟩
  · exact KeepsFrom.trans (((((hk.trans (KeepsFrom.setCell (q := b) _ (by omega) 0 (.slice none 0 0))).trans (KeepsFrom.setCell (q := b) _ (by omega) 1 (.slice none 0 0))).trans (KeepsFrom.setCell (q := b + 1) _ (by omega) 0 (.int .i64 k))).trans (KeepsFrom.setCell (q := b + 1 + 1) _ (by omega) 0 (.iface 54 (.int .i64 2))))) (KeepsFrom.below (Go.below_drewN (Below.refl _ _) 1))
  · exact Go.below_drewN ((((hb.setCell (p := ⟨b, 0, none⟩) (Nat.le_refl _) _).setCell (p := ⟨b, 1, none⟩) (Nat.le_refl _) _).setCell (p := ⟨b + 1, 0, none⟩) (by show b ≤ b + 1; omega) _).setCell (p := ⟨b + 1 + 1, 0, none⟩) (by show b ≤ b + 1 + 1; omega) _) 1
theorem RdS.app_k (h0 : RdS b g An At cn ct xs pre W) (hb : Below W.heap.size W V) (hg : V.grownBy X (Value.slice An g.kinds.length cn).ownBlock) :
    KeepsFrom B W X ∧ Below b W X ∧ X.heap[b + 1 + 1 + 1 + 1 + 1]? = W.heap[b + 1 + 1 + 1 + 1 + 1]? := by
  have hV := h0.all (.below hb)
  have hlow := h0.low
  obtain ⟨s, hq⟩ := h0.qb
  obtain ⟨s2, hq2⟩ := hV.qb
  have hlt := (Array.getElem?_eq_some_iff.1 hq).1
  exact ⟨(KeepsFrom.below hb).trans (KeepsFrom.append hV.on hg), (hb.mono (by omega)).grown hg (by have := hb.size; omega) (fun k e => (hV.on.lt k e).1),
    (hg.block _ (Array.getElem?_eq_some_iff.1 hq2).1 (hV.on.ne_block hq2 (by decide))).trans (hb.block _ hlt)⟩
theorem RdS.app_b (h0 : RdS b g An At cn ct xs pre W) (hb : Below W.heap.size W V) (hg : V.grownBy X (Value.slice At g.bonds.length ct).ownBlock) :
    KeepsFrom B W X ∧ Below b W X ∧ X.heap[b + 1 + 1 + 1 + 1 + 1]? = W.heap[b + 1 + 1 + 1 + 1 + 1]? := by
  have hV := h0.all (.below hb)
  have hlow := h0.low
  obtain ⟨s, hq⟩ := h0.qb
  obtain ⟨s2, hq2⟩ := hV.qb
  have hlt := (Array.getElem?_eq_some_iff.1 hq).1
  exact ⟨(KeepsFrom.below hb).trans (KeepsFrom.append hV.ot hg), (hb.mono (by omega)).grown hg (by have := hb.size; omega) (fun k e => (hV.ot.lt k e).1),
    (hg.block _ (Array.getElem?_eq_some_iff.1 hq2).1 (hV.ot.ne_block hq2 (by decide))).trans (hb.block _ hlt)⟩
end
section
variable {b D : Nat} {w Z : World}
/-- The results, behind the taking of the deferred calls. -/
theorem res_cellsS {vn vt n e : Value} {o : Obj} (r0 : Z.heap[b]? = some (.cells #[vn, vt] 25 (0, 0))) (r1 : Z.heap[b + 1]? = some (.cells #[n] 3 (0, 0))) (r2 : Z.heap[b + 1 + 1]? = some (.cells #[e] 29 (0, 0))) (hD : b + 6 ≤ D) :
    (Z.putObj D o).cell? ⟨b, 0, none⟩ = some vn ∧ (Z.putObj D o).cell? ⟨b, 1, none⟩ = some vt ∧ (Z.putObj D o).cell? ⟨b + 1, 0, none⟩ = some n ∧ (Z.putObj D o).cell? ⟨b + 1 + 1, 0, none⟩ = some e :=
  ⟨block_cell ((World.putObj_heap_other (by omega)).trans r0) 0, block_cell ((World.putObj_heap_other (by omega)).trans r0) 1, block_cell ((World.putObj_heap_other (by omega)).trans r1) 0, block_cell ((World.putObj_heap_other (by omega)).trans r2) 0⟩
theorem ScmR.setS {W : World} {g : Scm} {An At : Option Addr} {cn ct : Nat} {xs : List Value} {pre : List (List UInt8)} (h : RdS b g An At cn ct xs pre W) (hs : ∀ T', 25 ≠ T' → 3 ≠ T' → 29 ≠ T' → Same T' W Z) : ScmR Z (.slice An g.kinds.length cn) (.slice At g.bonds.length ct) g :=
  ⟨Own.row (L := kndL) (h.on.same (hs _ (by decide) (by decide) (by decide))) (h.nn.same (hs _ (by decide) (by decide) (by decide)) (hs _ (by decide) (by decide) (by decide))).row, Own.bnds (h.ot.same (hs _ (by decide) (by decide) (by decide))) h.tt⟩
/-- Three stores into the results. -/
theorem three_setS {W : World} {a0 a1 a2 a3 n e : Value} {v0 v1 : Value} (r0 : W.heap[b]? = some (.cells #[a0, a1] 25 (0, 0))) (r1 : W.heap[b + 1]? = some (.cells #[a2] 3 (0, 0))) (r2 : W.heap[b + 1 + 1]? = some (.cells #[a3] 29 (0, 0))) (hb : Below b w W) :
    let Y := (((W.setCell ⟨b, 0, none⟩ v0).setCell ⟨b, 1, none⟩ v1).setCell ⟨b + 1, 0, none⟩ n).setCell ⟨b + 1 + 1, 0, none⟩ e
    Y.heap[b]? = some (.cells #[v0, v1] 25 (0, 0)) ∧ Y.heap[b + 1]? = some (.cells #[n] 3 (0, 0)) ∧ Y.heap[b + 1 + 1]? = some (.cells #[e] 29 (0, 0)) ∧ Below b w Y ∧ (∀ k o, b + 3 ≤ k → W.heap[k]? = some o → Y.heap[k]? = some o) ∧ (∀ T', 25 ≠ T' → 3 ≠ T' → 29 ≠ T' → Same T' W Y) := by
  intro Y
  have a0' := setCell_block (setCell_block r0 0 v0) 1 v1
  have a1' := setCell_other (setCell_other r1 (q := b) (by omega) 0 v0) (q := b) (by omega) 1 v1
  have a2' := setCell_other (setCell_other r2 (q := b) (by omega) 0 v0) (q := b) (by omega) 1 v1
  have b1 := setCell_block a1' 0 n
  have b2 := setCell_other a2' (q := b + 1) (by omega) 0 n
  refine ⟨setCell_other (setCell_other a0' (by omega) _ _) (by omega) _ _, setCell_other b1 (by omega) _ _, setCell_block b2 0 _, ?_, ?_, ?_⟩
  · exact (((hb.setCell (p := ⟨b, 0, none⟩) (Nat.le_refl _) _).setCell (p := ⟨b, 1, none⟩) (Nat.le_refl _) _).setCell (p := ⟨b + 1, 0, none⟩) (by show b ≤ b + 1; omega) _).setCell (p := ⟨b + 1 + 1, 0, none⟩) (by show b ≤ b + 1 + 1; omega) _
  · intro k o hk h
    exact setCell_other (setCell_other (setCell_other (setCell_other h (by omega) _ _) (by omega) _ _) (by omega) _ _) (by omega) _ _
  · intro T' h1 h2 h3
    exact (((Same.setCell (p := ⟨b, 0, none⟩) r0 h1 v0).trans (Same.setCell (p := ⟨b, 1, none⟩) (setCell_block r0 0 v0) h1 v1)).trans (Same.setCell (p := ⟨b + 1, 0, none⟩) a1' h2 n)).trans (Same.setCell (p := ⟨b + 1 + 1, 0, none⟩) b2 h3 e)
end
theorem read_okS {l : List UInt8} {g : Scm} {L : List (List UInt8)} {n : Nat} (h : ∀ rest, runS ⟨[], []⟩ 0 (L ++ rest) = runS g n rest) (hL : L = linesL l) : readSE l = (scmE g).2 ∧ readSN l = 0 ∧ readSV l = if (scmE g).2 = 0 then g else ⟨[], []⟩ := by
  have hr : runS ⟨[], []⟩ 0 (linesL l) = .ok g := by rw [← hL]; have := h []; rw [List.append_nil] at this; exact this
  unfold readSE readSN readSV
  rw [hr]
  exact ⟨rfl, rfl, rfl⟩
theorem read_badS {l : List UInt8} {L : List (List UInt8)} {k : Nat} (h : ∀ rest, runS ⟨[], []⟩ 0 (L ++ rest) = .error k) (hL : L <+: linesL l) : readSE l = 2 ∧ readSN l = k ∧ readSV l = ⟨[], []⟩ := by
  obtain ⟨t, ht⟩ := hL
  have hr : runS ⟨[], []⟩ 0 (linesL l) = .error k := by rw [← ht]; exact h t
  unfold readSE readSN readSV
  rw [hr]
  exact ⟨rfl, rfl, rfl⟩

/-- What a kind is kin of, as text: nothing, or ' of ' and the names with a comma between. -/
def ofT (l : List (List UInt8)) : List UInt8 := if l = [] then [] else [32, 111, 102, 32] ++ Lib.join l [44]
theorem tail_append (sep : List UInt8) (a b : List (List UInt8)) : Lib.joinTail sep (a ++ b) = Lib.joinTail sep a ++ Lib.joinTail sep b := by
  unfold Lib.joinTail; rw [List.map_append, List.flatten_append]
theorem join_snoc (l : List (List UInt8)) (x sep : List UInt8) (h : l ≠ []) : Lib.join (l ++ [x]) sep = Lib.join l sep ++ sep ++ x := by
  cases l with
  | nil => exact absurd rfl h
  | cons y r =>
    rw [List.cons_append, Lib.join_cons, Lib.join_cons, tail_append]
    simp [Lib.joinTail]
theorem ofT_step (l : List (List UInt8)) (x : List UInt8) : ofT (l ++ [x]) = ofT l ++ (if l = [] then [32, 111, 102, 32] else [44]) ++ x := by
  unfold ofT
  rw [if_neg (by simp : l ++ [x] ≠ [])]
  by_cases h : l = []
  · subst h; rw [if_pos rfl, if_pos rfl, List.nil_append, List.nil_append, Lib.join_one]
  · rw [if_neg h, if_neg h, join_snoc _ _ _ h]
    simp only [List.append_assoc]
theorem ofT_len {l : List (List UInt8)} (h : ∀ x ∈ l, x.length ≤ 8) : (ofT l).length ≤ 4 + l.length * 9 := by
  unfold ofT
  split
  · simp
  · have := join_len l [44] 8 h
    rw [List.length_append]
    have e : ([32, 111, 102, 32] : List UInt8).length = 4 := rfl
    have e2 : ([44] : List UInt8).length = 1 := rfl
    rw [e2] at this
    omega
theorem tail_flds (l : List Fld) : Lib.joinTail [32] (l.map fldT) = l.flatMap fun f => 32 :: fldT f := by
  unfold Lib.joinTail
  induction l with
  | nil => rfl
  | cons x r ih => simp only [List.map_cons, List.flatten_cons, List.flatMap_cons, ih]; rfl
theorem kndT_parts (k : Knd) : kndT k = [107, 105, 110, 100, 32] ++ k.name.data.toList ++ ofT (k.ofs.map (·.data.toList)) ++ (k.fields.flatMap fun f => 32 :: fldT f) ++ [10] := by
  unfold kndT kndWords
  have e : ([[107, 105, 110, 100], k.name.data.toList] ++ ofsW k ++ k.fields.map fldT : List (List UInt8)) = [107, 105, 110, 100] :: (([k.name.data.toList] ++ ofsW k) ++ k.fields.map fldT) := by simp
  rw [e, Lib.join_cons, tail_append, tail_append, tail_flds]
  have e2 : Lib.joinTail [32] (ofsW k) = ofT (k.ofs.map (·.data.toList)) := by
    unfold ofsW ofT
    by_cases h : k.ofs.length = 0
    · rw [if_pos h, if_pos (by rw [List.map_eq_nil_iff]; exact List.length_eq_zero_iff.1 h)]; rfl
    · rw [if_neg h, if_neg (by rw [List.map_eq_nil_iff]; exact fun h' => h (List.length_eq_zero_iff.2 h'))]
      simp [Lib.joinTail]
  rw [e2]
  simp [Lib.joinTail]
theorem bndT_parts (b : Bnd) : bndT b = [98, 111, 110, 100, 32] ++ b.name.data.toList ++ [32] ++ b.src.data.toList ++ [32] ++ b.dst.data.toList ++ [32] ++ Lib.itoa b.mn ++ [32] ++ topL b ++ [10] := by
  unfold bndT bndWords
  rw [Lib.join_cons]
  simp [Lib.joinTail]
/-- The names that a right kind is kin of are short. -/
theorem ofs_short {l : List Knd} (h : Right l) {k : Knd} (hk : k ∈ l) : ∀ s ∈ k.ofs, s.data.toList.length ≤ 8 := by
  obtain ⟨i, hi⟩ := List.mem_iff_getElem?.1 hk
  have ho := h.one i k hi
  intro s hs
  have h0 : 0 ≤ kFind (l.take i) s := ofsE_zero ho.ofs s hs
  obtain ⟨j, d, _, h2, h3, _⟩ := kFind_pos h0
  have hj : j < i := by have := (List.getElem?_eq_some_iff.1 h2).1; rw [List.length_take] at this; omega
  rw [List.getElem?_take, if_pos hj] at h2
  have hnm := (h.one j d h2).nm
  rw [h3] at hnm
  exact name_len hnm
theorem fldsT_len {l : List Fld} (h : ∀ f ∈ l, ∃ q, fldE q f = 0) : (l.flatMap fun f => 32 :: fldT f).length ≤ l.length * 15 :=
  flatMap_len fun f hf => by
    obtain ⟨q, hq⟩ := h f hf
    have := (flat_fld hq).2
    rw [List.length_cons]; omega
open Go

/-- Digit by digit. -/
theorem decFrom_bad {l : List UInt8} {x : UInt8} {n : Nat} (h : Lib.digitVal x = none) : Lib.decFrom n (x :: l) = none := by rw [decFrom_cons, h]
theorem decFrom_good {l : List UInt8} {x : UInt8} {n d : Nat} (h : Lib.digitVal x = some d) : Lib.decFrom n (x :: l) = Lib.decFrom (n * 10 + d) l := by rw [decFrom_cons, h]
theorem digit_none {x : UInt8} (h : x.toNat < 48 ∨ 57 < x.toNat) : Lib.digitVal x = none := by
  unfold Lib.digitVal
  rw [if_neg (by omega)]
theorem digit_some {x : UInt8} (h1 : 48 ≤ x.toNat) (h2 : x.toNat ≤ 57) : Lib.digitVal x = some (x.toNat - 48) := by
  unfold Lib.digitVal
  rw [if_pos ⟨h1, h2⟩]
theorem drop_cons_of {l : List UInt8} {k : Nat} {x : UInt8} (h : l[k]? = some x) : l.drop k = x :: l.drop (k + 1) := by
  obtain ⟨hk, e⟩ := List.getElem?_eq_some_iff.1 h
  rw [List.drop_eq_getElem_cons hk, e]

theorem dig_len {u : Nat} (h : u ≤ 1000000) : (Lib.decDigits u).length ≤ 9 := by
  have := (itoa_small (n := (u : Int)) (by omega) (by omega)).1
  rw [itoa_nat, digits_trim] at this; exact this
theorem dec_big {u : Nat} (h : ¬ u < 10) : Lib.decDigits u = Lib.decDigits (u / 10) ++ Lib.decDigits (u % 10) := by
  rw [Lib.decDigits_one (show u % 10 < 10 by omega)]
  conv => lhs; rw [Lib.decDigits]
  rw [dif_neg h]
theorem dec_text {u : Nat} (h : u < 10) : (⟨#[48, 49, 50, 51, 52, 53, 54, 55, 56, 57]⟩ : ByteArray).extract u (u + 1) = bs (Lib.decDigits u) := by
  rw [Lib.decDigits_one h]
  rcases (by omega : u = 0 ∨ u = 1 ∨ u = 2 ∨ u = 3 ∨ u = 4 ∨ u = 5 ∨ u = 6 ∨ u = 7 ∨ u = 8 ∨ u = 9) with rfl | rfl | rfl | rfl | rfl | rfl | rfl | rfl | rfl | rfl <;> decide +kernel
set_option maxRecDepth 100000 in
set_option maxHeartbeats 2000000 in
theorem dig_pos : ∀ (u : Nat), u ≤ 1000000 → ∀ w : World, Calls Tryz.prog 23 #[.int .i64 (u : Int)] w fun e w' => e = .returned (.string (bs (Lib.decDigits u))) ∧ Below w.heap.size w w' := by
  intro u
  induction u using Nat.strongRecOn with
  | ind u ih =>
  intro hu w
  by_cases h10 : u < 10
  · have HE := Lib.hid (dec_text h10)
    have h10' : (u : Int) < 10 := by omega
    clear ih
    go_enter Tryz.func23, Tryz.ntmps23
    go_wp2_with fail
    go_ret
    exact ⟨by rw [← HE.out]; rfl, Below.refl _ _⟩
  · have hx := ih (u / 10) (by omega) (by omega) w
    have HY := Lib.hid (ih (u % 10) (by omega) (by omega))
    have HE := Lib.hid (dec_big h10)
    have h10' : ¬ (u : Int) < 10 := by omega
    have e1 : (u : Int) / 10 = ((u / 10 : Nat) : Int) := by omega
    have e2 : (u : Int) % 10 = ((u % 10 : Nat) : Int) := by omega
    have E1 := Lib.hid e1
    have E2 := Lib.hid e2
    have l1 := dig_len (u := u / 10) (by omega)
    have l2 := dig_len (u := u % 10) (by omega)
    have s1 : (bs (Lib.decDigits (u / 10))).size ≤ 9 := by rw [bs_size]; exact l1
    have s2 : (bs (Lib.decDigits (u % 10))).size ≤ 9 := by rw [bs_size]; exact l2
    clear ih l1 l2 e1 e2
    go_enter Tryz.func23, Tryz.ntmps23
    go_wp2_with fail
    rw [E1.out]
    refine hx.mono ?_
    clear hx
    rintro e w1 ⟨rfl, hb1⟩
    go_wp2_with fail
    rw [E2.out]
    refine (HY.out w1).mono ?_
    rintro e w2 ⟨rfl, hb2⟩
    generalize hA : bs (Lib.decDigits (u / 10)) = A at *
    generalize hB : bs (Lib.decDigits (u % 10)) = B at *
    have HA := Lib.hid hA
    have HB := Lib.hid hB
    have hsum : ¬ 9223372036854775807 < A.size + B.size := by omega
    clear hA hB
    go_wp2_with fail
    go_ret
    exact ⟨by rw [HE.out, ← bs_append, HA.out, HB.out]; rfl, hb1.trans (hb2.mono hb1.size)⟩
set_option maxHeartbeats 2000000 in
theorem dig_neg : ∀ (u : Nat), 0 < u → u ≤ 1000000 → ∀ w : World, Calls Tryz.prog 23 #[.int .i64 (-(u : Int))] w fun e w' => e = .returned (.string (bs (45 :: Lib.decDigits u))) ∧ Below w.heap.size w w' := by
  intro u
  induction u using Nat.strongRecOn with
  | ind u ih =>
  intro h0 hu w
  have hlt : -(u : Int) < 0 := by omega
  by_cases h9 : u ≤ 9
  · have hx := dig_pos u hu w
    have h9' : ¬ -(u : Int) < -9 := by omega
    have s1 : (bs (Lib.decDigits u)).size ≤ 9 := by rw [bs_size]; exact dig_len hu
    have HE : Hid (bs (45 :: Lib.decDigits u) = bs [45] ++ bs (Lib.decDigits u)) := by unfold Hid; rw [bs_append]; rfl
    clear ih
    generalize hA : bs (Lib.decDigits u) = A at *
    clear hA
    have hsum : ¬ 9223372036854775807 < 1 + A.size := by omega
    go_enter Tryz.func23, Tryz.ntmps23
    go_wp2_with fail
    refine hx.mono ?_
    clear hx
    rintro e w1 ⟨rfl, hb1⟩
    go_wp2_with fail
    go_ret
    exact ⟨by rw [HE.out]; rfl, hb1⟩
  · have hx := ih (u / 10) (by omega) (by omega) (by omega) w
    have HY := Lib.hid (dig_pos (u % 10) (by omega))
    have HE := Lib.hid (dec_big (u := u) (by omega))
    have h9' : -(u : Int) < -9 := by omega
    have l1 := dig_len (u := u / 10) (by omega)
    have l2 := dig_len (u := u % 10) (by omega)
    have s1 : (bs (45 :: Lib.decDigits (u / 10))).size ≤ 10 := by rw [bs_size]; simp; omega
    have s2 : (bs (Lib.decDigits (u % 10))).size ≤ 9 := by rw [bs_size]; exact l2
    have e1 : -((u : Int) / 10) = -((u / 10 : Nat) : Int) := by omega
    have e2 : (u : Int) % 10 = ((u % 10 : Nat) : Int) := by omega
    have HE2 : Hid (bs (45 :: Lib.decDigits u) = bs (45 :: Lib.decDigits (u / 10)) ++ bs (Lib.decDigits (u % 10))) := by unfold Hid; rw [HE.out, bs_append]; rfl
    have E1 := Lib.hid e1
    have E2 := Lib.hid e2
    clear ih l1 l2 e1 e2
    go_enter Tryz.func23, Tryz.ntmps23
    go_wp2_with fail
    rw [E1.out]
    refine hx.mono ?_
    clear hx
    rintro e w1 ⟨rfl, hb1⟩
    go_wp2_with fail
    rw [E2.out]
    refine (HY.out w1).mono ?_
    rintro e w2 ⟨rfl, hb2⟩
    generalize hA : bs (45 :: Lib.decDigits (u / 10)) = A at *
    generalize hB : bs (Lib.decDigits (u % 10)) = B at *
    have hsum : ¬ 9223372036854775807 < A.size + B.size := by omega
    clear hA hB
    go_wp2_with fail
    go_ret
    exact ⟨by rw [HE2.out]; rfl, hb1.trans (hb2.mono hb1.size)⟩
theorem dig_any (n : Int) (h : -1000000 ≤ n ∧ n ≤ 1000000) (w : World) : Calls Tryz.prog 23 #[.int .i64 n] w fun e w' => e = .returned (.string (bs (Lib.itoa n))) ∧ Below w.heap.size w w' := by
  rcases itoa_cases n with ⟨u, rfl, e⟩ | ⟨u, hu, rfl, e⟩
  · rw [e]; exact dig_pos u (by omega) w
  · rw [e]; exact dig_neg u (by omega) (by omega) w


/-- The variable of the types' names. -/
def TypOk (w : World) : Prop := w.cell? ⟨0, 1, none⟩ = some (.string (bs (typL 1))) ∧ w.cell? ⟨0, 2, none⟩ = some (.string (bs (typL 2))) ∧ w.cell? ⟨0, 3, none⟩ = some (.string (bs (typL 3)))
theorem TypOk.below {w w' : World} (h : TypOk w) (hb : Below w.heap.size w w') : TypOk w' := ⟨cell_below hb h.1, cell_below hb h.2.1, cell_below hb h.2.2⟩
theorem fld_text (nm : ByteArray) (a b : List UInt8) : nm ++ ⟨#[58]⟩ ++ bs a ++ bs b = bs (nm.data.toList ++ [58] ++ a ++ b) := by
  rw [← bs_append, ← bs_append, ← bs_append, bs_of]; rfl
theorem Bld.lt {B b : Nat} {l : List UInt8} {w : World} (h : Bld B b l w) : b < w.heap.size := h.elim (fun x => x.lt) (fun x => x.lt)
set_option maxRecDepth 100000 in
set_option maxHeartbeats 16000000 in
theorem sprint_any (s : Scm) (vk vb : Value) (w : World) (hT : TypOk w) (hS : ScmR w vk vb s) :
    Calls Tryz.prog 8 #[.agg #[vk, vb]] w fun e w' => e = .returned (.tuple #[.string (bs (if (scmE s).2 = 0 then scmT s else [])), errV (scmE s).2]) ∧ Below w.heap.size w w' := by
  obtain ⟨i0, ei, ez, ez1, ez2⟩ := info_parts str_info
  obtain ⟨A1, c1, rfl, _, _⟩ := hS.1.form
  obtain ⟨A2, c2, rfl, _, _⟩ := hS.2.form
  have hb0 : Below w.heap.size w (w.alloc (.cells #[.slice A1 s.kinds.length c1, .slice A2 s.bonds.length c2] 25)) := (Below.refl _ _).alloc (Nat.le_refl _) _
  obtain ⟨x0, x1⟩ := cell_box2 w (.slice A1 s.kinds.length c1) (.slice A2 s.bonds.length c2) 25
  have HS := Lib.hid (hS.below hb0)
  have HT := Lib.hid (hT.below hb0)
  have hx := sright_any s _ _ _ (hS.below hb0)
  have HOK : Hid ((scmE s).2 = 0 → ScmOk s) := scmE_zero
  obtain ⟨R, hR⟩ : ∃ R, R = (if (scmE s).2 = 0 then scmT s else []) := ⟨_, rfl⟩
  rw [← hR]
  have HR := Lib.hid hR
  generalize (scmE s).2 = ee at *
  clear hS hT hR
  go_enter Tryz.func8, Tryz.ntmps8
  go_wp2_with fail
  generalize w.alloc (.cells #[.slice A1 s.kinds.length c1, .slice A2 s.bonds.length c2] 25) = W0 at *
  have X0 := Lib.hid x0
  have X1 := Lib.hid x1
  refine hx.mono ?_
  clear hx x0 x1
  rintro e w1 ⟨rfl, hb1⟩
  have hB1 := hb0.trans (hb1.mono hb0.size)
  by_cases hz : ee = 0
  case neg =>
    have HE : Hid (R = []) := by unfold Hid; rw [HR.out, if_neg hz]
    rw [errV_some hz]
    clear HR HOK
    go_wp2_with fail
    go_ret2
    exact ⟨by rw [HE.out, errV_some hz]; rfl, hB1⟩
  rw [errV_zero hz]
  have HE : Hid (R = scmT s) := by unfold Hid; rw [HR.out, if_pos hz]
  have ho := HOK.out hz
  have HO := Lib.hid ho
  have hkl := ho.r.len
  have hbl := ho.bl
  have HZ := Lib.hid hz
  obtain ⟨B, hBe⟩ : ∃ B, B = W0.heap.size := ⟨_, rfl⟩
  have hBz : B ≤ w1.heap.size := by rw [hBe]; exact hb1.size
  have hbl1 := Bld.fresh hBz
  have ha1 : Below B W0 (w1.alloc (.cells #[.pointer none, .slice none 0 0] 67)) := by rw [hBe]; exact hb1.alloc hb1.size _
  obtain ⟨bb, hbb⟩ : ∃ bb, bb = w1.heap.size := ⟨_, rfl⟩
  have x0 := cell_below (by rw [← hBe]; exact ha1) X0.out
  clear hz HR HOK ho hb1 hB1
  go_wp2_with fail
  rw [← hbb]
  rw [← hbb] at hbl1
  generalize w1.alloc (.cells #[.pointer none, .slice none 0 0] 67) = w2 at *
  clear hbb hBz x0
  go_loopw [23] (fun i wr => ∃ k : Nat, k ≤ s.kinds.length ∧ i = .int .i64 k ∧ Below B W0 wr ∧ B ≤ wr.heap.size ∧ Hid (Bld B bb ((s.kinds.take k).flatMap kndT) wr)) (fun i _ => s.kinds.length - (intOf i).toNat)
  case atStart => exact ⟨0, Nat.zero_le _, rfl, ha1, Nat.le_trans (by rw [hBe]; exact Nat.le_refl _) (by rw [← hBe]; exact (by rw [hBe]; exact ha1.size)), by rw [List.take_zero]; exact hbl1⟩
  case round =>
    clear hbl1 ha1
    obtain ⟨k, hk, rfl, hbr, hBr, HB⟩ := hrel
    have hbr' : Below W0.heap.size W0 wr := by rw [← hBe]; exact hbr
    obtain ⟨wo, hwo⟩ : ∃ wo : World, wo = wr := ⟨_, rfl⟩
    subst hwo
    by_cases hlt : k < s.kinds.length
    · obtain ⟨d, hd⟩ : ∃ d, s.kinds[k]? = some d := ⟨_, List.getElem?_eq_getElem hlt⟩
      have hlt' : (k : Int) < (s.kinds.length : Int) := by omega
      obtain ⟨gb, o, rfl, u, x, _, hu, hf, q0, q1, q2⟩ := knd_at (HS.out.below hbr').1 hd
      obtain ⟨Au, cu, rfl, hcu, _⟩ := hu.form
      obtain ⟨Af, cf, rfl, _, hcf⟩ := hf.form
      unfold maxLen at hcf
      have hmem := List.mem_of_getElem? hd
      obtain ⟨hkw, hkn⟩ := knd_words HO.out.r hmem
      have hone := HO.out.r.one k d hd
      have hofl := hone.ofl
      have hfll := hone.fll
      have HFO : Hid (∀ f ∈ d.fields, ∃ q, fldE q f = 0) := fun f h => flds_ok hone.fls f h
      have HKW := Lib.hid hkw
      have HST : Hid ((s.kinds.take (k + 1)).flatMap kndT = (s.kinds.take k).flatMap kndT ++ kndT d) := by
        unfold Hid; rw [List.take_add_one, hd, List.flatMap_append]; simp
      have hpl : ((s.kinds.take k).flatMap kndT).length ≤ 12 * 450 := by
        have h1 := flatMap_len (f := kndT) (m := 450) (l := s.kinds.take k) fun y hy => (line_knd HO.out.r (List.mem_of_mem_take hy)).2
        have h2 : (s.kinds.take k).length ≤ 12 := by rw [List.length_take]; omega
        exact Nat.le_trans h1 (Nat.mul_le_mul h2 (Nat.le_refl _))
      have HLD := Lib.hid (line_knd HO.out.r hmem).2
      have hbk := heap_alloc_new wo (.cells #[.string d.name, .slice Au d.ofs.length cu, .slice Af d.fields.length cf] 59)
      have ha3 : Below wo.heap.size wo (wo.alloc (.cells #[.string d.name, .slice Au d.ofs.length cu, .slice Af d.fields.length cf] 59)) := (Below.refl _ _).alloc (Nat.le_refl _) _
      have hu3 := hu.below ha3
      have hf3 := hf.below ha3
      clear hd hu hf hkw hone
      go_upto_region 8 with fail
      generalize wo.alloc (.cells #[.string d.name, .slice Au d.ofs.length cu, .slice Af d.fields.length cf] 59) = w3 at *
      clear q0 q1 q2
      have z0 := block_cell hbk 0
      have z1 := block_cell hbk 1
      have hw4 : Own (w3.alloc (.cells #[.string ⟨#[107, 105, 110, 100]⟩, .string d.name] 9)) w3.heap.size 9 1 (.slice (some ⟨w3.heap.size, 0, none⟩) 2 2) 2 (wv [[107, 105, 110, 100], d.name.data.toList]) := by
        have h := two_words w3 ⟨#[107, 105, 110, 100]⟩ d.name
        have e : wv [[107, 105, 110, 100], d.name.data.toList] = [.string ⟨#[107, 105, 110, 100]⟩, .string d.name] := by
          unfold wv; rw [List.map_cons, List.map_cons, bs_of]; rfl
        rw [e]; exact h
      have ha4 : Below w3.heap.size w3 (w3.alloc (.cells #[.string ⟨#[107, 105, 110, 100]⟩, .string d.name] 9)) := (Below.refl _ _).alloc (Nat.le_refl _) _
      go_upto_region 9 with fail
      generalize w3.alloc (.cells #[.string ⟨#[107, 105, 110, 100]⟩, .string d.name] 9) = w4 at *
      have z0 := cell_below ha4 z0
      have z1 := cell_below ha4 z1
      have HU4 := Lib.hid (hu3.below ha4)
      have HF3 := Lib.hid hf3
      have HBK := Lib.hid hbk
      clear hu3 hf3 hbk
      go_upto_if 33 with fail
      go_cut [8] (fun v wx => Own wx w3.heap.size 9 1 v ([[107, 105, 110, 100], d.name.data.toList] ++ ofsW d).length (wv ([[107, 105, 110, 100], d.name.data.toList] ++ ofsW d)) ∧ Below w3.heap.size w3 wx)
      case first =>
        by_cases hof : d.ofs.length = 0
        · have hE : Hid (ofsW d = []) := by unfold Hid ofsW; rw [if_pos hof]
          have hof' : ¬ ((0 : Int) < (d.ofs.length : Int)) := by omega
          have hofd : decide ((0 : Int) < (d.ofs.length : Int)) = false := decide_eq_false hof'
          have HW := Lib.hid hw4
          clear hw4 hof
          go_wp2_with fail
          go_meet
          exact ⟨by rw [hE.out, List.append_nil]; exact HW.out, ha4⟩
        · have hE : Hid (ofsW d = [[111, 102], Lib.join (d.ofs.map (·.data.toList)) [44]]) := by unfold Hid ofsW; rw [if_neg hof]
          have hof' : (0 : Int) < (d.ofs.length : Int) := by omega
          have hofd : decide ((0 : Int) < (d.ofs.length : Int)) = true := decide_eq_true hof'
          have hjl : (Lib.join (d.ofs.map (·.data.toList)) [44]).length ≤ 36 := (HKW.out _ (by
            unfold kndWords
            refine List.mem_append.2 (.inl (List.mem_append.2 (.inr ?_)))
            rw [hE.out]; simp)).2
          have hx := join_sl w4 Au cu d.ofs [44] HU4.out (by omega) (by omega) hcu (by omega)
          generalize Lib.join (d.ofs.map (·.data.toList)) [44] = J at *
          have HW := Lib.hid hw4
          clear hw4 hof
          go_wp2_with fail
          refine hx.mono ?_
          clear hx z0 z1
          rintro e w5 ⟨rfl, hb5⟩
          have hs5 := ha4.size
          have hO5 := HW.out.below hb5
          have hOA := Lib.hid (hO5.alloc (.cells #[.string ⟨#[111, 102]⟩, .string (bs J)] 9))
          have hB5 := ha4.trans (hb5.mono hs5)
          have hNW : Hid (∀ j u, ([.string ⟨#[111, 102]⟩, .string (bs J)] : List Value)[j]? = some u → (w5.alloc (.cells #[.string ⟨#[111, 102]⟩, .string (bs J)] 9)).cell? ⟨w5.heap.size, j, none⟩ = some u) := fun j u hj => by
            rw [World.cell?_alloc_at _ _ _ _ rfl]; simpa using hj
          have hSB : Hid (w3.heap.size ≤ (w5.alloc (.cells #[.string ⟨#[111, 102]⟩, .string (bs J)] 9)).heap.size) := by
            have := hB5.size
            unfold Hid; simp; omega
          go_wp2_with (first
            | (at_builtin; refine wpList_append_q _ rfl (.tmp 34) (.tmp 38) _ rfl w3.heap.size 9 i0 (.string .empty) 1 16 Tryz.underlying45 ei ez ez1 ez2 rfl (by decide) (.slice (some ⟨w3.heap.size, 0, none⟩) 2 2) 2 (wv [[107, 105, 110, 100], d.name.data.toList]) rfl hOA.out (some ⟨w5.heap.size, 0, none⟩) 2 2 [.string ⟨#[111, 102]⟩, .string (bs J)] rfl rfl (fun _ => ⟨_, rfl, fun j u hj => by rw [addr_add, Nat.zero_add]; exact hNW.out j u hj⟩) (fun u hu => by simp at hu; rcases hu with rfl | rfl <;> rfl) (by unfold maxLen; omega) (by omega) hSB.out ?_
               intro v7 w7 hown7 hg7 hat7))
          have hb7 : Below w3.heap.size w3 w7 := (hB5.alloc hB5.size _).grown hg7 hSB.out (fun kk e => (hOA.out.lt kk e).1)
          have ho7 : Own w7 w3.heap.size 9 1 v7 ([[107, 105, 110, 100], d.name.data.toList] ++ ofsW d).length (wv ([[107, 105, 110, 100], d.name.data.toList] ++ ofsW d)) := by
            rw [hE.out]
            exact hown7
          obtain ⟨A7, c7, hv7, _, _⟩ := hown7.form
          subst hv7
          have HO7 := Lib.hid ho7
          clear ho7 hown7 hg7 hat7
          go_meet
          exact ⟨HO7.out, hb7⟩
      case rest =>
      obtain ⟨w7, hw7⟩ : ∃ x : World, x = wc := ⟨_, rfl⟩
      subst hw7
      obtain ⟨ho7, hb7⟩ := hcut
      have hbase : kndWords d = ([[107, 105, 110, 100], d.name.data.toList] ++ ofsW d) ++ d.fields.map fldT := rfl
      have HKD := Lib.hid hbase
      have hwl : ([[107, 105, 110, 100], d.name.data.toList] ++ ofsW d).length ≤ 4 := by unfold ofsW; split <;> simp
      obtain ⟨A7, c7, hv7, _, _⟩ := ho7.form
      subst hv7
      have HO7 := Lib.hid ho7
      have HWN : Hid (0 < ([[107, 105, 110, 100], d.name.data.toList] ++ ofsW d).length) := by unfold Hid; simp
      generalize [[107, 105, 110, 100], d.name.data.toList] ++ ofsW d = Ws at *
      clear ho7 hw4 ha4 z0 z1 HU4 hbase hkn
      have z2 := cell_below hb7 (block_cell HBK.out 2)
      have hs3 := hb7.size
      go_wp2_with fail
      clear z2
      have hO0 : Hid (Own w7 w3.heap.size 9 1 (.slice A7 Ws.length c7) (Ws ++ (d.fields.take 0).map fldT).length (wv (Ws ++ (d.fields.take 0).map fldT))) := by
        rw [List.take_zero, List.map_nil, List.append_nil]; exact HO7.out
      go_loopw [8, 43] (fun v i wr => ∃ j : Nat, j ≤ d.fields.length ∧ i = .int .i64 j ∧ w3.heap.size ≤ wr.heap.size ∧ Below w3.heap.size w3 wr ∧ Hid (Own wr w3.heap.size 9 1 v (Ws ++ (d.fields.take j).map fldT).length (wv (Ws ++ (d.fields.take j).map fldT)))) (fun _ i _ => d.fields.length - (intOf i).toNat)
      case atStart => exact ⟨0, Nat.zero_le _, rfl, hs3, hb7, hO0⟩
      case round =>
        clear hO0 HO7 hb7 hs3
        obtain ⟨j, hj, rfl, hs3, hb7, hO⟩ := hrel
        by_cases hlj : j < d.fields.length
        · obtain ⟨f, hf⟩ : ∃ f, d.fields[j]? = some f := ⟨_, List.getElem?_eq_getElem hlj⟩
          have hlj' : (j : Int) < (d.fields.length : Int) := by omega
          obtain ⟨fname, fty, fmust, fkey⟩ := f
          obtain ⟨bf, of, rfl, hfok, q0, q1, q2, q3⟩ := fld_at (HF3.out.below hb7) hf
          obtain ⟨qf, hqf⟩ := HFO.out ⟨fname, fty, fmust, fkey⟩ (List.mem_of_getElem? hf)
          have hty := (fld_parts hqf).2
          have hnm := (fld_parts hqf).1
          have hsgl := sgn_len ⟨fname, fty, fmust, fkey⟩
          have HSF : Hid ((d.fields.take (j + 1)).map fldT = (d.fields.take j).map fldT ++ [fldT ⟨fname, fty, fmust, fkey⟩]) := by unfold Hid; rw [List.take_add_one, hf, List.map_append]; rfl
          have hnl : (Ws ++ (d.fields.take j).map fldT).length ≤ 12 := by rw [List.length_append, List.length_map, List.length_take]; omega
          have hbf := heap_alloc_new wr (.cells #[.string fname, .int .i64 fty, .bool fmust, .bool fkey] 61)
          have hab : Below wr.heap.size wr (wr.alloc (.cells #[.string fname, .int .i64 fty, .bool fmust, .bool fkey] 61)) := (Below.refl _ _).alloc (Nat.le_refl _) _
          clear hf hfok hqf
          go_upto_region 14 with fail
          generalize wr.alloc (.cells #[.string fname, .int .i64 fty, .bool fmust, .bool fkey] 61) = wb at *
          have hO2 := Lib.hid (hO.out.below hab)
          have hbb7 := hb7.trans (hab.mono hs3)
          have hs4 := hbb7.size
          have hT := HT.out.below (hbr'.trans ((ha3.trans (hbb7.mono ha3.size)).mono hbr'.size))
          have f0 := block_cell hbf 0
          have f1 := block_cell hbf 1
          have f2 := block_cell hbf 2
          have f3 := block_cell hbf 3
          clear q0 q1 q2 q3 hO hbf hab hb7
          have hsg : sgnL ⟨fname, fty, fmust, fkey⟩ = if fkey = true then [42] else if fmust = true then [33] else [] := rfl
          have HSG := Lib.hid hsg
          clear hsg
          go_upto_region 15 with fail
          go_upto_if 48 with fail
          go_cut [11] (fun v wx => v = .string (bs (if fmust = true then [33] else [])) ∧ wx = wb)
          case first =>
            cases fmust with
            | true =>
              go_wp2_with fail
              go_meet
              exact ⟨rfl, rfl⟩
            | false =>
              go_wp2_with fail
              go_meet
              exact ⟨rfl, rfl⟩
          case rest =>
          obtain ⟨rfl, hwb⟩ := hcut
          subst hwb
          obtain ⟨wb, hwb⟩ : ∃ x : World, x = wc := ⟨_, rfl⟩
          subst hwb
          generalize hsm : (if fmust = true then ([33] : List UInt8) else []) = sm at *
          have HSG2 : Hid (sgnL ⟨fname, fty, fmust, fkey⟩ = if fkey = true then [42] else sm) := by unfold Hid; rw [HSG.out, ← hsm]
          clear HSG hsm
          go_upto_if 50 with fail
          go_cut [11] (fun v wx => v = .string (bs (sgnL ⟨fname, fty, fmust, fkey⟩)) ∧ wx = wb)
          case first =>
            cases fkey with
            | true =>
              have HE2 : Hid (sgnL ⟨fname, fty, fmust, true⟩ = [42]) := by unfold Hid; rw [HSG2.out, if_pos rfl]
              clear HSG2
              go_wp2_with fail
              go_meet
              exact ⟨by rw [HE2.out]; rfl, rfl⟩
            | false =>
              have HE2 : Hid (sgnL ⟨fname, fty, fmust, false⟩ = sm) := by unfold Hid; rw [HSG2.out, if_neg (by simp)]
              clear HSG2
              go_wp2_with fail
              go_meet
              exact ⟨by rw [HE2.out], rfl⟩
          case rest =>
          obtain ⟨rfl, hwb⟩ := hcut
          subst hwb
          obtain ⟨wb, hwb⟩ : ∃ x : World, x = wc := ⟨_, rfl⟩
          subst hwb
          obtain ⟨t1, t2, t3⟩ := hT
          have hFT : Hid (fldT ⟨fname, fty, fmust, fkey⟩ = fname.data.toList ++ [58] ++ typL fty ++ sgnL ⟨fname, fty, fmust, fkey⟩) := rfl
          generalize sgnL ⟨fname, fty, fmust, fkey⟩ = sg at *
          have hty3 : fty = 1 ∨ fty = 2 ∨ fty = 3 := by
            unfold tyB at hty
            simp at hty
            omega
          clear f2 f3 HSG2 hty
          rcases hty3 with ht | ht | ht
          · subst ht
            -- a field's word is appended: 1: its type
            have hXE : Hid ((fname ++ ⟨#[58]⟩ ++ bs (typL 1) ++ bs sg) = bs (fldT ⟨fname, 1, fmust, fkey⟩)) := by unfold Hid; rw [fld_text, hFT.out]
            obtain ⟨A8, c8, hv8, _, _⟩ := hO2.out.form
            subst hv8
            have hOA : Hid (Own (wb.alloc (.cells #[.string (fname ++ ⟨#[58]⟩ ++ bs (typL 1) ++ bs sg)] 9)).drew w3.heap.size 9 1 (.slice A8 (Ws ++ (d.fields.take j).map fldT).length c8) (Ws ++ (d.fields.take j).map fldT).length (wv (Ws ++ (d.fields.take j).map fldT))) := (hO2.out.alloc _).below ((Below.refl _ _).drew)
            have hNW : Hid (∀ j u, ([.string (fname ++ ⟨#[58]⟩ ++ bs (typL 1) ++ bs sg)] : List Value)[j]? = some u → (wb.alloc (.cells #[.string (fname ++ ⟨#[58]⟩ ++ bs (typL 1) ++ bs sg)] 9)).drew.cell? ⟨wb.heap.size, j, none⟩ = some u) := fun j u hj => by
              show (wb.alloc (.cells #[.string (fname ++ ⟨#[58]⟩ ++ bs (typL 1) ++ bs sg)] 9)).cell? ⟨wb.heap.size, j, none⟩ = some u
              rw [World.cell?_alloc_at _ _ _ _ rfl]; simpa using hj
            have hSB : Hid (w3.heap.size ≤ (wb.alloc (.cells #[.string (fname ++ ⟨#[58]⟩ ++ bs (typL 1) ++ bs sg)] 9)).heap.size) := by unfold Hid; simp; omega
            have hn8 : fname.size ≤ 8 := by have := name_len hnm; rw [Array.length_toList] at this; exact this
            have ht4 : (bs (typL 1)).size ≤ 4 := by rw [bs_size]; exact typ_len _
            have hsg1 : (bs sg).size ≤ 1 := by rw [bs_size]; exact hsgl
            have hc1 : ¬ 9223372036854775807 < fname.size + 1 := by omega
            have hc2 : ¬ 9223372036854775807 < fname.size + 1 + (bs (typL 1)).size := by omega
            have hc3 : ¬ 9223372036854775807 < fname.size + 1 + (bs (typL 1)).size + (bs sg).size := by omega
            have HBB := Lib.hid hbb7
            have HSL : Hid (wv (Ws ++ (d.fields.take (j + 1)).map fldT) = wv (Ws ++ (d.fields.take j).map fldT) ++ [.string (fname ++ ⟨#[58]⟩ ++ bs (typL 1) ++ bs sg)] ∧ (Ws ++ (d.fields.take (j + 1)).map fldT).length = (Ws ++ (d.fields.take j).map fldT).length + 1) := by
              unfold Hid
              rw [HSF.out, hXE.out, ← List.append_assoc]
              unfold wv
              rw [List.map_append, List.length_append]; exact ⟨rfl, rfl⟩
            clear hO2 hbb7 hXE hFT
            generalize hnn : (Ws ++ (d.fields.take j).map fldT).length = nn at *
            clear hnn
            go_wp2_with fail
            go_region_law
              (first
                | (refine step_here rfl ?_
                   refine wp_append_q _ (.tmp 51) (.tmp 62) _ rfl w3.heap.size 9 i0 (.string .empty) 1 16 Tryz.underlying45 ei ez ez1 ez2 rfl (by decide) (.slice A8 nn c8) nn (wv (Ws ++ (d.fields.take j).map fldT)) rfl hOA.out (some ⟨wb.heap.size, 0, none⟩) 1 1 [.string (fname ++ ⟨#[58]⟩ ++ bs (typL 1) ++ bs sg)] rfl rfl (fun _ => ⟨_, rfl, fun j u hj => by rw [addr_add, Nat.zero_add]; exact hNW.out j u hj⟩) (fun u hu => by simp at hu; subst hu; rfl) (by unfold maxLen; omega) (by omega) (show w3.heap.size ≤ (wb.alloc (.cells #[.string (fname ++ ⟨#[58]⟩ ++ bs (typL 1) ++ bs sg)] 9)).heap.size from hSB.out) ?_
                   intro v9 w9 hown9 hg9 hat9))
            all_goals
              have hb9 : Below w3.heap.size w3 w9 := ((HBB.out.alloc HBB.out.size _).drew).grown hg9 (show w3.heap.size ≤ (wb.alloc (.cells #[.string (fname ++ ⟨#[58]⟩ ++ bs (typL 1) ++ bs sg)] 9)).heap.size from hSB.out) (fun kk e => (hOA.out.lt kk e).1)
              have ho9 : Own w9 w3.heap.size 9 1 v9 (Ws ++ (d.fields.take (j + 1)).map fldT).length (wv (Ws ++ (d.fields.take (j + 1)).map fldT)) := by rw [HSL.out.1, HSL.out.2]; exact hown9
              have hs9 := hb9.size
              clear hg9 hat9 hown9
              go_wp2_with fail
              go_roundw
              case rel => exact ⟨j + 1, by omega, by go_num, hs9, hb9, ho9⟩
              case measure => simp [intOf]; omega
          · subst ht
            -- a field's word is appended: 2: its type
            have hXE : Hid ((fname ++ ⟨#[58]⟩ ++ bs (typL 2) ++ bs sg) = bs (fldT ⟨fname, 2, fmust, fkey⟩)) := by unfold Hid; rw [fld_text, hFT.out]
            obtain ⟨A8, c8, hv8, _, _⟩ := hO2.out.form
            subst hv8
            have hOA : Hid (Own (wb.alloc (.cells #[.string (fname ++ ⟨#[58]⟩ ++ bs (typL 2) ++ bs sg)] 9)).drew w3.heap.size 9 1 (.slice A8 (Ws ++ (d.fields.take j).map fldT).length c8) (Ws ++ (d.fields.take j).map fldT).length (wv (Ws ++ (d.fields.take j).map fldT))) := (hO2.out.alloc _).below ((Below.refl _ _).drew)
            have hNW : Hid (∀ j u, ([.string (fname ++ ⟨#[58]⟩ ++ bs (typL 2) ++ bs sg)] : List Value)[j]? = some u → (wb.alloc (.cells #[.string (fname ++ ⟨#[58]⟩ ++ bs (typL 2) ++ bs sg)] 9)).drew.cell? ⟨wb.heap.size, j, none⟩ = some u) := fun j u hj => by
              show (wb.alloc (.cells #[.string (fname ++ ⟨#[58]⟩ ++ bs (typL 2) ++ bs sg)] 9)).cell? ⟨wb.heap.size, j, none⟩ = some u
              rw [World.cell?_alloc_at _ _ _ _ rfl]; simpa using hj
            have hSB : Hid (w3.heap.size ≤ (wb.alloc (.cells #[.string (fname ++ ⟨#[58]⟩ ++ bs (typL 2) ++ bs sg)] 9)).heap.size) := by unfold Hid; simp; omega
            have hn8 : fname.size ≤ 8 := by have := name_len hnm; rw [Array.length_toList] at this; exact this
            have ht4 : (bs (typL 2)).size ≤ 4 := by rw [bs_size]; exact typ_len _
            have hsg1 : (bs sg).size ≤ 1 := by rw [bs_size]; exact hsgl
            have hc1 : ¬ 9223372036854775807 < fname.size + 1 := by omega
            have hc2 : ¬ 9223372036854775807 < fname.size + 1 + (bs (typL 2)).size := by omega
            have hc3 : ¬ 9223372036854775807 < fname.size + 1 + (bs (typL 2)).size + (bs sg).size := by omega
            have HBB := Lib.hid hbb7
            have HSL : Hid (wv (Ws ++ (d.fields.take (j + 1)).map fldT) = wv (Ws ++ (d.fields.take j).map fldT) ++ [.string (fname ++ ⟨#[58]⟩ ++ bs (typL 2) ++ bs sg)] ∧ (Ws ++ (d.fields.take (j + 1)).map fldT).length = (Ws ++ (d.fields.take j).map fldT).length + 1) := by
              unfold Hid
              rw [HSF.out, hXE.out, ← List.append_assoc]
              unfold wv
              rw [List.map_append, List.length_append]; exact ⟨rfl, rfl⟩
            clear hO2 hbb7 hXE hFT
            generalize hnn : (Ws ++ (d.fields.take j).map fldT).length = nn at *
            clear hnn
            go_wp2_with fail
            go_region_law
              (first
                | (refine step_here rfl ?_
                   refine wp_append_q _ (.tmp 51) (.tmp 62) _ rfl w3.heap.size 9 i0 (.string .empty) 1 16 Tryz.underlying45 ei ez ez1 ez2 rfl (by decide) (.slice A8 nn c8) nn (wv (Ws ++ (d.fields.take j).map fldT)) rfl hOA.out (some ⟨wb.heap.size, 0, none⟩) 1 1 [.string (fname ++ ⟨#[58]⟩ ++ bs (typL 2) ++ bs sg)] rfl rfl (fun _ => ⟨_, rfl, fun j u hj => by rw [addr_add, Nat.zero_add]; exact hNW.out j u hj⟩) (fun u hu => by simp at hu; subst hu; rfl) (by unfold maxLen; omega) (by omega) (show w3.heap.size ≤ (wb.alloc (.cells #[.string (fname ++ ⟨#[58]⟩ ++ bs (typL 2) ++ bs sg)] 9)).heap.size from hSB.out) ?_
                   intro v9 w9 hown9 hg9 hat9))
            all_goals
              have hb9 : Below w3.heap.size w3 w9 := ((HBB.out.alloc HBB.out.size _).drew).grown hg9 (show w3.heap.size ≤ (wb.alloc (.cells #[.string (fname ++ ⟨#[58]⟩ ++ bs (typL 2) ++ bs sg)] 9)).heap.size from hSB.out) (fun kk e => (hOA.out.lt kk e).1)
              have ho9 : Own w9 w3.heap.size 9 1 v9 (Ws ++ (d.fields.take (j + 1)).map fldT).length (wv (Ws ++ (d.fields.take (j + 1)).map fldT)) := by rw [HSL.out.1, HSL.out.2]; exact hown9
              have hs9 := hb9.size
              clear hg9 hat9 hown9
              go_wp2_with fail
              go_roundw
              case rel => exact ⟨j + 1, by omega, by go_num, hs9, hb9, ho9⟩
              case measure => simp [intOf]; omega
          · subst ht
            -- a field's word is appended: 3: its type
            have hXE : Hid ((fname ++ ⟨#[58]⟩ ++ bs (typL 3) ++ bs sg) = bs (fldT ⟨fname, 3, fmust, fkey⟩)) := by unfold Hid; rw [fld_text, hFT.out]
            obtain ⟨A8, c8, hv8, _, _⟩ := hO2.out.form
            subst hv8
            have hOA : Hid (Own (wb.alloc (.cells #[.string (fname ++ ⟨#[58]⟩ ++ bs (typL 3) ++ bs sg)] 9)).drew w3.heap.size 9 1 (.slice A8 (Ws ++ (d.fields.take j).map fldT).length c8) (Ws ++ (d.fields.take j).map fldT).length (wv (Ws ++ (d.fields.take j).map fldT))) := (hO2.out.alloc _).below ((Below.refl _ _).drew)
            have hNW : Hid (∀ j u, ([.string (fname ++ ⟨#[58]⟩ ++ bs (typL 3) ++ bs sg)] : List Value)[j]? = some u → (wb.alloc (.cells #[.string (fname ++ ⟨#[58]⟩ ++ bs (typL 3) ++ bs sg)] 9)).drew.cell? ⟨wb.heap.size, j, none⟩ = some u) := fun j u hj => by
              show (wb.alloc (.cells #[.string (fname ++ ⟨#[58]⟩ ++ bs (typL 3) ++ bs sg)] 9)).cell? ⟨wb.heap.size, j, none⟩ = some u
              rw [World.cell?_alloc_at _ _ _ _ rfl]; simpa using hj
            have hSB : Hid (w3.heap.size ≤ (wb.alloc (.cells #[.string (fname ++ ⟨#[58]⟩ ++ bs (typL 3) ++ bs sg)] 9)).heap.size) := by unfold Hid; simp; omega
            have hn8 : fname.size ≤ 8 := by have := name_len hnm; rw [Array.length_toList] at this; exact this
            have ht4 : (bs (typL 3)).size ≤ 4 := by rw [bs_size]; exact typ_len _
            have hsg1 : (bs sg).size ≤ 1 := by rw [bs_size]; exact hsgl
            have hc1 : ¬ 9223372036854775807 < fname.size + 1 := by omega
            have hc2 : ¬ 9223372036854775807 < fname.size + 1 + (bs (typL 3)).size := by omega
            have hc3 : ¬ 9223372036854775807 < fname.size + 1 + (bs (typL 3)).size + (bs sg).size := by omega
            have HBB := Lib.hid hbb7
            have HSL : Hid (wv (Ws ++ (d.fields.take (j + 1)).map fldT) = wv (Ws ++ (d.fields.take j).map fldT) ++ [.string (fname ++ ⟨#[58]⟩ ++ bs (typL 3) ++ bs sg)] ∧ (Ws ++ (d.fields.take (j + 1)).map fldT).length = (Ws ++ (d.fields.take j).map fldT).length + 1) := by
              unfold Hid
              rw [HSF.out, hXE.out, ← List.append_assoc]
              unfold wv
              rw [List.map_append, List.length_append]; exact ⟨rfl, rfl⟩
            clear hO2 hbb7 hXE hFT
            generalize hnn : (Ws ++ (d.fields.take j).map fldT).length = nn at *
            clear hnn
            go_wp2_with fail
            go_region_law
              (first
                | (refine step_here rfl ?_
                   refine wp_append_q _ (.tmp 51) (.tmp 62) _ rfl w3.heap.size 9 i0 (.string .empty) 1 16 Tryz.underlying45 ei ez ez1 ez2 rfl (by decide) (.slice A8 nn c8) nn (wv (Ws ++ (d.fields.take j).map fldT)) rfl hOA.out (some ⟨wb.heap.size, 0, none⟩) 1 1 [.string (fname ++ ⟨#[58]⟩ ++ bs (typL 3) ++ bs sg)] rfl rfl (fun _ => ⟨_, rfl, fun j u hj => by rw [addr_add, Nat.zero_add]; exact hNW.out j u hj⟩) (fun u hu => by simp at hu; subst hu; rfl) (by unfold maxLen; omega) (by omega) (show w3.heap.size ≤ (wb.alloc (.cells #[.string (fname ++ ⟨#[58]⟩ ++ bs (typL 3) ++ bs sg)] 9)).heap.size from hSB.out) ?_
                   intro v9 w9 hown9 hg9 hat9))
            all_goals
              have hb9 : Below w3.heap.size w3 w9 := ((HBB.out.alloc HBB.out.size _).drew).grown hg9 (show w3.heap.size ≤ (wb.alloc (.cells #[.string (fname ++ ⟨#[58]⟩ ++ bs (typL 3) ++ bs sg)] 9)).heap.size from hSB.out) (fun kk e => (hOA.out.lt kk e).1)
              have ho9 : Own w9 w3.heap.size 9 1 v9 (Ws ++ (d.fields.take (j + 1)).map fldT).length (wv (Ws ++ (d.fields.take (j + 1)).map fldT)) := by rw [HSL.out.1, HSL.out.2]; exact hown9
              have hs9 := hb9.size
              clear hg9 hat9 hown9
              go_wp2_with fail
              go_roundw
              case rel => exact ⟨j + 1, by omega, by go_num, hs9, hb9, ho9⟩
              case measure => simp [intOf]; omega
        · obtain rfl : j = d.fields.length := by omega
          have hkw2 : Ws ++ (d.fields.take d.fields.length).map fldT = kndWords d := by rw [List.take_length]; exact HKD.out.symm
          rw [hkw2] at hO
          have hkn : 0 < (kndWords d).length ∧ (kndWords d).length ≤ 12 := ⟨by rw [HKD.out]; have := HWN.out; rw [List.length_append]; omega, (knd_words HO.out.r hmem).2⟩
          have hjl : (Lib.join (kndWords d) [32]).length ≤ 450 := by have := HLD.out; unfold kndT at this; rw [List.length_append] at this; omega
          have hkt : Hid (kndT d = Lib.join (kndWords d) [32] ++ [10]) := rfl
          obtain ⟨g9, o9, c9, hv9, hn9, _⟩ := hO.out.addr hkn.1
          subst hv9
          have hn9 : (kndWords d).length ≤ c9 := by
            obtain ⟨A', c', hv', hle, _⟩ := hO.out.form
            injection hv' with _ _ hc
            rw [hc]; exact hle
          have hx := join_own w3.heap.size wr g9 o9 c9 (kndWords d) [32] hO.out (by omega) hn9 (by omega)
          have hbw : Below wo.heap.size wo wr := ha3.trans (hb7.mono ha3.size)
          generalize Lib.join (kndWords d) [32] = J at *
          generalize hkl2 : (kndWords d).length = kn at *
          have hJs : (bs J).size ≤ 450 := by rw [bs_size]; exact hjl
          have hc1 : ¬ 9223372036854775807 < (bs J).size + 1 := by omega
          clear hkw2 hO hkl2 hb7
          go_wp2_with fail
          refine hx.mono ?_
          clear hx
          rintro e w8 ⟨rfl, hb8⟩
          have hbw8 := hbw.trans (hb8.mono hbw.size)
          have hBw8 : B ≤ w8.heap.size := Nat.le_trans hBr hbw8.size
          have hx := tx_write B bb _ (bs J ++ ⟨#[10]⟩) w8 (HB.out.below hbw8) (by
            have e2 : (bs J ++ ⟨#[10]⟩ : ByteArray) = bs (J ++ [10]) := bs_append J [10]
            rw [e2, bs_size, List.length_append]
            have : ([10] : List UInt8).length = 1 := rfl
            omega) hBw8
          go_wp2_with fail
          refine hx.mono ?_
          clear hx
          rintro e w9 ⟨rfl, hB9, hb9⟩
          have hD9 : Hid (Bld B bb ((s.kinds.take (k + 1)).flatMap kndT) w9) := by
            have e2 : (bs J ++ ⟨#[10]⟩ : ByteArray) = bs (J ++ [10]) := bs_append J [10]
            rw [e2, bs_list, ← hkt.out, ← HST.out] at hB9
            exact hB9
          have hB9b : Below B W0 w9 := (hbr.trans (hbw8.mono hBr)).trans hb9
          have hs9 : B ≤ w9.heap.size := Nat.le_trans hBw8 hb9.size
          clear hB9
          go_wp2_with fail
          go_roundw
          case rel => exact ⟨k + 1, by omega, by go_num, hB9b, hs9, hD9⟩
          case measure => simp [intOf]; omega
    · obtain rfl : k = s.kinds.length := by omega
      have hB2 : Hid (Bld B bb (s.kinds.flatMap kndT ++ (s.bonds.take 0).flatMap bndT) wo) := by
        have := HB.out
        rw [List.take_length] at this
        unfold Hid; rw [List.take_zero]
        show Bld B bb (s.kinds.flatMap kndT ++ []) wo
        rw [List.append_nil]; exact this
      have hpl : (s.kinds.flatMap kndT).length ≤ 12 * 450 := by
        have h1 := flatMap_len (f := kndT) (m := 450) (l := s.kinds) fun y hy => (line_knd HO.out.r hy).2
        exact Nat.le_trans h1 (Nat.mul_le_mul hkl (Nat.le_refl _))
      have hRT : Hid (R = s.kinds.flatMap kndT ++ s.bonds.flatMap bndT) := HE
      generalize s.kinds.flatMap kndT = Lk at *
      have x1 := cell_below hbr' X1.out
      clear HB hlt hk
      go_wp2_with fail
      clear x1
      go_loopw [73] (fun i wr => ∃ k : Nat, k ≤ s.bonds.length ∧ i = .int .i64 k ∧ Below B W0 wr ∧ B ≤ wr.heap.size ∧ Hid (Bld B bb (Lk ++ (s.bonds.take k).flatMap bndT) wr)) (fun i _ => s.bonds.length - (intOf i).toNat)
      case atStart => exact ⟨0, Nat.zero_le _, rfl, hbr, hBr, hB2⟩
      case round =>
        clear hB2 hbr hBr hbr'
        obtain ⟨k, hk, rfl, hbr, hBr, HB⟩ := hrel
        have hbr' : Below W0.heap.size W0 wr := by rw [← hBe]; exact hbr
        by_cases hlt : k < s.bonds.length
        · obtain ⟨d, hd⟩ : ∃ d, s.bonds[k]? = some d := ⟨_, List.getElem?_eq_getElem hlt⟩
          have hlt' : (k : Int) < (s.bonds.length : Int) := by omega
          have hmem := List.mem_of_getElem? hd
          have hrng := (HO.out.b k d hd).rng
          have HLD := Lib.hid (line_bnd HO.out hmem).2
          have HST : Hid ((s.bonds.take (k + 1)).flatMap bndT = (s.bonds.take k).flatMap bndT ++ bndT d) := by
            unfold Hid; rw [List.take_add_one, hd, List.flatMap_append]; simp
          have hpl2 : ((s.bonds.take k).flatMap bndT).length ≤ 12 * 450 := by
            have h1 := flatMap_len (f := bndT) (m := 450) (l := s.bonds.take k) fun y hy => (line_bnd HO.out (List.mem_of_mem_take hy)).2
            have h2 : (s.bonds.take k).length ≤ 12 := by rw [List.length_take]; omega
            exact Nat.le_trans h1 (Nat.mul_le_mul h2 (Nat.le_refl _))
          obtain ⟨gb, o, rfl, _, q0, q1, q2, q3, q4⟩ := bnd_at (HS.out.below hbr').2 hd
          obtain ⟨bn, bsrc, bdst, mn, mx⟩ := d
          unfold rngB at hrng
          simp only at hrng q0 q1 q2 q3 q4
          obtain ⟨m, hm⟩ : ∃ m : Nat, mn = m := ⟨mn.toNat, by omega⟩
          subst hm
          have hm20 : m < 100 := by omega
          have hbk := heap_alloc_new wr (.cells #[.string bn, .string bsrc, .string bdst, .int .i64 (m : Int), .int .i64 mx] 40)
          have ha3 : Below wr.heap.size wr (wr.alloc (.cells #[.string bn, .string bsrc, .string bdst, .int .i64 (m : Int), .int .i64 mx] 40)) := (Below.refl _ _).alloc (Nat.le_refl _) _
          clear hd
          go_upto_region 26 with fail
          generalize wr.alloc (.cells #[.string bn, .string bsrc, .string bdst, .int .i64 (m : Int), .int .i64 mx] 40) = w3 at *
          have z0 := block_cell hbk 0
          have z1 := block_cell hbk 1
          have z2 := block_cell hbk 2
          have z3 := block_cell hbk 3
          have z4 := block_cell hbk 4
          clear q0 q1 q2 q3 q4
          go_upto_if 79 with fail
          go_cut [14] (fun v wx => v = .string (bs (topL ⟨bn, bsrc, bdst, m, mx⟩)) ∧ wx = w3)
          case first =>
            by_cases h0 : 0 ≤ mx
            · have h0d : decide (0 ≤ mx) = true := decide_eq_true h0
              obtain ⟨t, ht⟩ : ∃ t : Nat, mx = t := ⟨mx.toNat, by omega⟩
              subst ht
              have hx := tx_itoaS t (by omega) w3
              have hTE : Hid (topL ⟨bn, bsrc, bdst, m, (t : Int)⟩ = Lib.decDigits t) := by unfold Hid topL; rw [if_pos h0]; exact itoa_nat t
              go_wp2_with fail
              refine hx.mono ?_
              clear hx
              rintro e _ ⟨rfl, rfl⟩
              go_wp2_with fail
              go_meet
              exact ⟨by rw [hTE.out]; rfl, rfl⟩
            · have h0d : decide (0 ≤ mx) = false := decide_eq_false h0
              have hTE : Hid (topL ⟨bn, bsrc, bdst, m, mx⟩ = [97, 110, 121]) := by unfold Hid topL; exact if_neg h0
              go_wp2_with fail
              go_meet
              exact ⟨by rw [hTE.out]; rfl, rfl⟩
          case rest =>
          obtain ⟨rfl, hw3⟩ := hcut
          subst hw3
          obtain ⟨w3, hw3⟩ : ∃ x : World, x = wc := ⟨_, rfl⟩
          subst hw3
          have hBT : Hid (bndT ⟨bn, bsrc, bdst, m, mx⟩ = Lib.join (bndWords ⟨bn, bsrc, bdst, m, mx⟩) [32] ++ [10]) := rfl
          have hjl : (Lib.join (bndWords ⟨bn, bsrc, bdst, m, mx⟩) [32]).length ≤ 450 := by have := HLD.out; rw [hBT.out, List.length_append] at this; omega
          have hBW : bndWords ⟨bn, bsrc, bdst, m, mx⟩ = [[98, 111, 110, 100], bn.data.toList, bsrc.data.toList, bdst.data.toList, Lib.itoa (m : Int), topL ⟨bn, bsrc, bdst, m, mx⟩] := rfl
          generalize topL ⟨bn, bsrc, bdst, m, mx⟩ = tp at *
          have hWV : wv (bndWords ⟨bn, bsrc, bdst, m, mx⟩) = [.string ⟨#[98, 111, 110, 100]⟩, .string bn, .string bsrc, .string bdst, .string ⟨(Lib.decDigits m).toArray⟩, .string (bs tp)] := by
            rw [hBW, itoa_nat]
            unfold wv
            simp only [List.map_cons, List.map_nil, bs_of]
            rfl
          have hlen6 : (bndWords ⟨bn, bsrc, bdst, m, mx⟩).length = 6 := by rw [hBW]; rfl
          have hOW : Own (w3.alloc (.cells #[.string ⟨#[98, 111, 110, 100]⟩, .string bn, .string bsrc, .string bdst, .string ⟨(Lib.decDigits m).toArray⟩, .string (bs tp)] 9)).drew w3.heap.size 9 1 (.slice (some ⟨w3.heap.size, 0, none⟩) 6 6) 6 (wv (bndWords ⟨bn, bsrc, bdst, m, mx⟩)) := by
            rw [hWV]
            exact own_of_block (cs := [.string ⟨#[98, 111, 110, 100]⟩, .string bn, .string bsrc, .string bdst, .string ⟨(Lib.decDigits m).toArray⟩, .string (bs tp)]) (heap_alloc_new w3 (.cells #[.string ⟨#[98, 111, 110, 100]⟩, .string bn, .string bsrc, .string bdst, .string ⟨(Lib.decDigits m).toArray⟩, .string (bs tp)] 9)) (Nat.le_refl _) rfl (by unfold maxLen; omega)
          have HJ : Hid (Calls Tryz.prog 25 #[.slice (some ⟨w3.heap.size, 0, none⟩) 6 6, .string ⟨#[32]⟩] (w3.alloc (.cells #[.string ⟨#[98, 111, 110, 100]⟩, .string bn, .string bsrc, .string bdst, .string ⟨(Lib.decDigits m).toArray⟩, .string (bs tp)] 9)).drew fun e w' => e = .returned (.string (bs (Lib.join (bndWords ⟨bn, bsrc, bdst, m, mx⟩) [32]))) ∧ Below (w3.alloc (.cells #[.string ⟨#[98, 111, 110, 100]⟩, .string bn, .string bsrc, .string bdst, .string ⟨(Lib.decDigits m).toArray⟩, .string (bs tp)] 9)).drew.heap.size (w3.alloc (.cells #[.string ⟨#[98, 111, 110, 100]⟩, .string bn, .string bsrc, .string bdst, .string ⟨(Lib.decDigits m).toArray⟩, .string (bs tp)] 9)).drew w') := by
            have h := join_own w3.heap.size (w3.alloc (.cells #[.string ⟨#[98, 111, 110, 100]⟩, .string bn, .string bsrc, .string bdst, .string ⟨(Lib.decDigits m).toArray⟩, .string (bs tp)] 9)).drew w3.heap.size 0 6 (bndWords ⟨bn, bsrc, bdst, m, mx⟩) [32] (by rw [hlen6]; exact hOW) (by rw [hlen6]; omega) (by rw [hlen6]; exact Nat.le_refl _) (by omega)
            rw [hlen6] at h
            exact h
          have hbd : Below w3.heap.size w3 w3.drew := (Below.refl _ _).drew
          have hba : Below w3.heap.size w3 (w3.alloc (.cells #[.string ⟨#[98, 111, 110, 100]⟩, .string bn, .string bsrc, .string bdst, .string ⟨(Lib.decDigits m).toArray⟩, .string (bs tp)] 9)).drew := ((Below.refl _ _).alloc (Nat.le_refl _) _).drew
          have hkeep := And.intro (cell_below hbd z0) (And.intro (cell_below hbd z1) (And.intro (cell_below hbd z2) (cell_below hbd z3)))
          have hwz : w3.heap.size ≠ wr.heap.size := by have := (Array.getElem?_eq_some_iff.1 hbk).1; omega
          generalize Lib.join (bndWords ⟨bn, bsrc, bdst, m, mx⟩) [32] = J at *
          have hJs : (bs J).size ≤ 450 := by rw [bs_size]; exact hjl
          have hc1 : ¬ 9223372036854775807 < (bs J).size + 1 := by omega
          have hrw : Below B wr w3 := ha3.mono hBr
          have HBK := Lib.hid hbk
          have hbn : wr.heap.size ≠ bb := by have := Bld.lt HB.out; omega
          clear hBW hWV hOW hbk z4 hlen6
          go_wp2_with fail
          go_region_held3 (fun w' => w'.cell? ⟨wr.heap.size, 0, none⟩ = some (.string bn) ∧ w'.cell? ⟨wr.heap.size, 1, none⟩ = some (.string bsrc) ∧ w'.cell? ⟨wr.heap.size, 2, none⟩ = some (.string bdst) ∧ w'.cell? ⟨wr.heap.size, 3, none⟩ = some (.int .i64 (m : Int)))
            (first
              | exact hkeep
              | go_keep)
            (first
              | (go_at_call 27
                 refine (tx_itoaS m hm20 _).mono ?_
                 rintro e w5 ⟨rfl, rfl⟩)
              | (go_at_call 25
                 refine HJ.out.mono ?_
                 rintro e w6 ⟨rfl, hb6⟩
                 have hb36 := hba.trans (hb6.mono hba.size)
                 have hkeep := And.intro (cell_below hb36 z0) (And.intro (cell_below hb36 z1) (And.intro (cell_below hb36 z2) (cell_below hb36 z3)))
                 have hbw6 := ha3.trans (hb36.mono ha3.size)
                 have hBw6 : B ≤ w6.heap.size := Nat.le_trans hBr hbw6.size
                 have hx := tx_writeK B bb _ (bs J ++ ⟨#[10]⟩) w6 (HB.out.below hbw6) (by
                   have e2 : (bs J ++ ⟨#[10]⟩ : ByteArray) = bs (J ++ [10]) := bs_append J [10]
                   rw [e2, bs_size, List.length_append, List.length_append]
                   have : ([10] : List UInt8).length = 1 := rfl
                   omega) hBw6)
              | (go_at_call 26
                 refine hx.mono ?_
                 rintro e w7 ⟨rfl, hB7, hb7, hk7⟩
                 have hbk7 := hk7 _ _ ((hb36.block _ (Array.getElem?_eq_some_iff.1 HBK.out).1).trans HBK.out) (fun e => hbn (by injection e)) (fun c fz e => by injection e with _ e _; cases e)
                 have hkeep := And.intro (block_cell hbk7 0) (And.intro (block_cell hbk7 1) (And.intro (block_cell hbk7 2) (block_cell hbk7 3)))))
          all_goals
            have hD9 : Hid (Bld B bb (Lk ++ (s.bonds.take (k + 1)).flatMap bndT) w7) := by
              have e2 : (bs J ++ ⟨#[10]⟩ : ByteArray) = bs (J ++ [10]) := bs_append J [10]
              rw [e2, bs_list, ← hBT.out, List.append_assoc, ← HST.out] at hB7
              exact hB7
            have hB9b : Below B W0 w7 := (hbr.trans (hbw6.mono hBr)).trans hb7
            have hs9 : B ≤ w7.heap.size := Nat.le_trans hBw6 hb7.size
            clear hkeep hB7 hk7 hbk7 hb7
            go_wp2_with fail
            go_roundw
            case rel => exact ⟨k + 1, by omega, by go_num, hB9b, hs9, hD9⟩
            case measure => simp [intOf]; omega
        · obtain rfl : k = s.bonds.length := by omega
          have hBF : Hid (Bld B bb R wr) := by unfold Hid; rw [hRT.out]; have := HB.out; rw [List.take_length] at this; exact this
          have hx := tx_string B bb R wr hBF.out hBr
          have hbX : Hid (∀ w', Below B wr w' → Below w.heap.size w w') := fun w' h => hb0.trans ((hbr'.trans (by rw [hBe] at h; exact h)).mono hb0.size)
          clear hBF HB
          go_wp2_with fail
          refine hx.mono ?_
          clear hx
          rintro e w9 ⟨rfl, hb9⟩
          go_wp2_with fail
          go_ret2
          exact ⟨by rw [errV_zero HZ.out]; rfl, hbX.out _ hb9⟩
end Go.Proofs.YtfeccicogcnhcaaGreatDoor
