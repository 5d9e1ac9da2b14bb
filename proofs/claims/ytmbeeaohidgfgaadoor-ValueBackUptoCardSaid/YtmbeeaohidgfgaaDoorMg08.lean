/- Parts: Qr, KinA, KinB, KinC, KinD, Eqs. -/
import Derived.Sort.BigQuietIn
import Derived.Test.YtmbeeaohidgfgaaDoorMg01
import Derived.Test.YtmbeeaohidgfgaaDoorMg07
import Derived.Maps.OwnIn
import Derived.Maps.Views
import Derived.StringKeys
import Derived.Test.YtmbeeaohidgfgaaDoorRows
import Derived.RangeFuncNested
import Derived.RangeFuncBound
import Derived.RangeFuncCalls
import Derived.RangeFuncLeaves
import Derived.RangeFuncBox
import Derived.RangeFuncWrites
import Derived.Shelf.Abstract
import Derived.OwnWalkIn
import Derived.TacticsInMore
import Derived.LoopNIn
import Derived.LoopIn
import Derived.Test.YtmbeeaohidgfgaaDoorMg02
import Derived.Laws.StructEq
/- A region that draws its order, inside a round of a range over a function: one walk in the order of the text serves every order where the operations only read. Conditions: the Bools on the region. -/
namespace Go.Proofs.YtmbeeaohidgfgaaDoor
open Go Go.RowKit Go.BigFrame

section
variable {F : Fence} {n : Nat} {P : Program} {ops : Array Oper} {md : Region.Mode} {C : World → Prop}
end
open Go Go.RowKit
open Go.Maps (Keyed)

/-! ### Kin -/
/-! ### A set of texts in memory -/
open Go Go.RowKit Go.Shelf

attribute [local go_sem] Oper.semAt_some


attribute [local go_sem] Oper.semAt_some

open Go.RowKit

theorem bytes_beq (a b : ByteArray) : (a.toList == b.toList) = decide (a = b) := by
  rw [Bool.eq_iff_iff, beq_iff_eq, decide_eq_true_eq]
  constructor
  · intro h
    rw [ByteArray.toList_eq, ByteArray.toList_eq] at h
    have := Array.toList_inj.1 h
    cases a; cases b; simp at this; rw [this]
  · intro h; rw [h]

/-! ### kind.Find -/

theorem bytes_eq (a b : ByteArray) : (a.toList = b.toList) = (a = b) := by
  have := bytes_beq a b
  apply propext
  constructor
  · intro h; rw [h] at this; simpa using this.symm
  · intro h; rw [h]
end Go.Proofs.YtmbeeaohidgfgaaDoor
