/- Parts: LaidW, TxG. -/
import Derived.Lib.LaidU8
import Derived.LaidHandle
import Derived.MakeChecks
import Derived.Test.YtmbeeaohidgfgaaDoorMg03
import Derived.LaidLaws
import Derived.Lib.LaidTab
import Derived.Shelf.Vars
/- The cells that plain data of a laid variable stand for (for the witness' worlds), and: a laid array of strings holds them. -/
namespace Go.Proofs.YtmbeeaohidgfgaaDoor
open Go

def laidOne : DataW Unit → Value
  | .lit (.int k z) => .int k z
  | .lit (.string b) => .string ⟨b.toArray⟩
  | _ => .int .i64 0
def laidTwo : DataW Unit → List Value
  | .agg ds => ds.map laidOne
  | d => [laidOne d]
def laidCells : DataW Unit → List Value
  | .agg ds => ds.flatMap laidTwo
  | d => [laidOne d]
/-- A row of heap objects, one variable's cells laid. -/
def layVar (h : Array Obj) (g : Nat) (d : DataW Unit) : Array Obj := h.modify g fun
  | .cells _ t frozen => .cells (laidCells d).toArray t frozen
  | o => o
/-- The same: a variable that holds an error, whose text lies in block b. -/
def layErr (h : Array Obj) (g t b : Nat) : Array Obj := h.modify g fun
  | .cells _ u frozen => .cells #[.iface t (.pointer (some ⟨b, 0, none⟩))] u frozen
  | o => o

theorem tab_of_reads {w : World} (h : Lib.VarReads Tryd.prog w "internal/strconv.uint64pow10" Rows.laid_internal_strconv_uint64pow10) : Lib.TabIs Tryd.prog w "internal/strconv.uint64pow10" .u64 Lib.pow10Tab := by
  obtain ⟨g, t, cs, fuel, p, h1, h2, h3, h4⟩ := h
  obtain rfl := Option.some.inj ((show Tryd.prog.globalNamed "internal/strconv.uint64pow10" = some 3 by kernel_rfl).symm.trans h1)
  obtain rfl := Option.some.inj ((show (Tryd.prog.globals[3]?).map (·.type) = some 114 by kernel_rfl).symm.trans h2)
  have e := Lib.cells_of_tab (zs := Lib.pow10Tab) Tryd.underlying114 Tryd.underlying98 (by kernel_rfl) (by kernel_rfl) h4
  unfold Lib.TabIs
  rw [h3, ← e]
theorem len_of_shaped {w : World} (h : w.ShapedOpen Tryd.prog) : ∃ m, w.cell? ⟨0, 0, none⟩ = some (.int .i64 m) :=
  cell_of_shapedOpen_int (zero := #[.int .i64 0]) (t := 3) h (of_decide_eq_true (by kernel_rfl)) (by kernel_rfl) rfl (by kernel_rfl) (by kernel_rfl) Tryd.underlying3
theorem txp_of {w : World} {l : List (String × DataW Unit)} (h : laidMet Tryd.prog l w) (hs : w.ShapedOpen Tryd.prog) (h1 : ("internal/strconv.uint64pow10", Rows.laid_internal_strconv_uint64pow10) ∈ l) : TxP w :=
  ⟨len_of_shaped hs, tab_of_reads (Lib.laidMet.reads h h1)⟩
theorem iface_of_reads {w : World} {n nm : String} {g : Nat} {d : DataW Unit} (hg : Tryd.prog.globalNamed n = some g) (ht : (Tryd.prog.globals[g]?).map (·.type) = some 27) (h : Lib.VarReads Tryd.prog w n (.iface nm d)) : ∃ tp p, w.var? Tryd.prog n = some #[.iface tp p] := by
  obtain ⟨g', t, cs, fuel, p, h1, h2, h3, h4⟩ := h
  obtain rfl := Option.some.inj (hg.symm.trans h1)
  obtain rfl := Option.some.inj (ht.symm.trans h2)
  obtain ⟨_, u, v, e, _⟩ := iface_of_trod Tryd.underlying27 h4
  have e2 : cs = #[.iface u v] := by cases cs; simpa using e
  exact ⟨u, v, by rw [h3, e2]⟩
theorem txok_of {w : World} {l : List (String × DataW Unit)} (h : laidMet Tryd.prog l w) (hs : w.ShapedOpen Tryd.prog) (h1 : ("internal/strconv.uint64pow10", Rows.laid_internal_strconv_uint64pow10) ∈ l) (h2 : ("strconv.ErrSyntax", Rows.laid_strconv_ErrSyntax) ∈ l) (h3 : ("strconv.ErrRange", Rows.laid_strconv_ErrRange) ∈ l) : TxOk w where
  toTxP := txp_of h hs h1
  sy := iface_of_reads (g := 1) (by kernel_rfl) (by kernel_rfl) (Lib.laidMet.reads h h2)
  ra := iface_of_reads (g := 2) (by kernel_rfl) (by kernel_rfl) (Lib.laidMet.reads h h3)
end Go.Proofs.YtmbeeaohidgfgaaDoor
