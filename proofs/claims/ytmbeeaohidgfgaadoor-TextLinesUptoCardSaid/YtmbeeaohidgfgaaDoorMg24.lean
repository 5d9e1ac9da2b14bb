/- Parts: OpenB, OpenC, LaidW, TxG. -/
import Derived.Test.YtmbeeaohidgfgaaDoorMg23
import Derived.ChangeMaps5
import Derived.Lib.LaidU8
import Derived.LaidHandle
import Derived.MakeChecks
import Derived.Test.YtmbeeaohidgfgaaDoorMg03
import Derived.LaidLaws
import Derived.Lib.LaidTab
import Derived.Shelf.Vars
/- Plain: the program's structs, read as data, lie as the layouts say (this program's numbers of types). -/
namespace Go.Proofs.YtmbeeaohidgfgaaDoor
open Go Go.RowKit Go.Deep Go.ChangeShapes Go.WideShapes

theorem oInt : Opens Tryd.prog intL 3 := opens_int Tryd.underlying3
theorem oStr : Opens Tryd.prog strL 9 := opens_str Tryd.underlying9
theorem o_val : Opens Tryd.prog valL 34 := by
  intro H enc w base spare held fuel cs x hx hb
  obtain ⟨hl, hf⟩ := field_at Tryd.underlying34 hx hb
  rw [show Tryd.prog.cellsOf 34 = 3 from by kernel_rfl] at hl
  match cs, hl with
  | [c0, c1, c2], _ =>
    obtain ⟨a0, e0, h0⟩ := hf (L := intL) 0 _ 1 rfl (by kernel_rfl) oInt
    have e0 : [c0] = [.int .i64 a0] := e0
    injection e0 with e0 _
    subst e0
    obtain ⟨a1, e1, h1⟩ := hf (L := intL) 1 _ 1 rfl (by kernel_rfl) oInt
    have e1 : [c1] = [.int .i64 a1] := e1
    injection e1 with e1 _
    subst e1
    obtain ⟨a2, e2, h2⟩ := hf (L := strL) 2 _ 1 rfl (by kernel_rfl) oStr
    have e2 : [c2] = [.string a2] := e2
    injection e2 with e2 _
    subst e2
    exact ⟨⟨a0, a1, a2⟩, rfl, h0, h1, h2⟩
theorem o_prp : Opens Tryd.prog prpL 58 := by
  intro H enc w base spare held fuel cs x hx hb
  obtain ⟨hl, hf⟩ := field_at Tryd.underlying58 hx hb
  rw [show Tryd.prog.cellsOf 58 = 4 from by kernel_rfl] at hl
  match cs, hl with
  | [c0, c1, c2, c3], _ =>
    obtain ⟨a0, e0, h0⟩ := hf (L := strL) 0 _ 1 rfl (by kernel_rfl) oStr
    have e0 : [c0] = [.string a0] := e0
    injection e0 with e0 _
    subst e0
    obtain ⟨v, e1, h1⟩ := hf (L := valL) 1 _ 3 rfl (by kernel_rfl) o_val
    have e1 : [c1, c2, c3] = [.int .i64 v.ty, .int .i64 v.n, .string v.s] := e1
    injection e1 with e1 e2
    injection e2 with e2 e3
    injection e3 with e3 _
    subst e1; subst e2; subst e3
    exact ⟨⟨a0, v⟩, rfl, h0, h1⟩
theorem o_tie : Opens Tryd.prog tieL 54 := by
  intro H enc w base spare held fuel cs x hx hb
  obtain ⟨hl, hf⟩ := field_at Tryd.underlying54 hx hb
  rw [show Tryd.prog.cellsOf 54 = 3 from by kernel_rfl] at hl
  match cs, hl with
  | [c0, c1, c2], _ =>
    obtain ⟨a0, e0, h0⟩ := hf (L := strL) 0 _ 1 rfl (by kernel_rfl) oStr
    have e0 : [c0] = [.string a0] := e0
    injection e0 with e0 _
    subst e0
    obtain ⟨a1, e1, h1⟩ := hf (L := intL) 1 _ 1 rfl (by kernel_rfl) oInt
    have e1 : [c1] = [.int .i64 a1] := e1
    injection e1 with e1 _
    subst e1
    obtain ⟨a2, e2, h2⟩ := hf (L := intL) 2 _ 1 rfl (by kernel_rfl) oInt
    have e2 : [c2] = [.int .i64 a2] := e2
    injection e2 with e2 _
    subst e2
    exact ⟨⟨a0, a1, a2⟩, rfl, h0, h1, h2⟩
theorem o_rec : Opens Tryd.prog (slL prpL) 47 := Opens.slice Tryd.underlying47 (by kernel_rfl) (by decide) o_prp
theorem o_ties : Opens Tryd.prog (slL tieL) 23 := Opens.slice Tryd.underlying23 (by kernel_rfl) (by decide) o_tie
theorem o_nod : Opens Tryd.prog nodL 49 := by
  intro H enc w base spare held fuel cs x hx hb
  obtain ⟨hl, hf⟩ := field_at Tryd.underlying49 hx hb
  rw [show Tryd.prog.cellsOf 49 = 3 from by kernel_rfl] at hl
  match cs, hl with
  | [c0, c1, c2], _ =>
    obtain ⟨a0, e0, h0⟩ := hf (L := intL) 0 _ 1 rfl (by kernel_rfl) oInt
    have e0 : [c0] = [.int .i64 a0] := e0
    injection e0 with e0 _
    subst e0
    obtain ⟨a1, e1, h1⟩ := hf (L := strL) 1 _ 1 rfl (by kernel_rfl) oStr
    have e1 : [c1] = [.string a1] := e1
    injection e1 with e1 _
    subst e1
    obtain ⟨a2, v2, e2, h2⟩ := hf (L := slL prpL) 2 _ 1 rfl (by kernel_rfl) o_rec
    have e2 : [c2] = [v2] := e2
    injection e2 with e2 _
    subst e2
    exact ⟨⟨a0, a1, a2⟩, c2, rfl, h0, h1, h2⟩
theorem o_nods : Opens Tryd.prog (slL nodL) 22 := Opens.slice Tryd.underlying22 (by kernel_rfl) (by decide) o_nod

/-! ### Arguments -/
set_option maxRecDepth 100000 in
/-- A struct of two slices. -/
theorem arg_two {D E : Type} {L : Lay D} {M : Lay E} {t : TypeId} {f0 f1 : Field} {H : Type} {enc : TypeId × Value → H} {w : World} {base b0 : Nat} {r : Reach} {spare : Nat → Bool} {held : Bool} {v : Value} {d : DataW H} {p : List MemPlace}
    (hs : Tryd.prog.underlying t = some (.struct #[f0, f1])) (hone : oneCellFields Tryd.prog #[f0, f1] = true) (hC : Tryd.prog.cellsOf t = 2) (h0 : Opens Tryd.prog (slL L) f0.type) (h1 : Opens Tryd.prog (slL M) f1.type)
    (hv : Value.okWide Tryd.prog w r b0 t v) (h : DataW.Trod enc Tryd.prog w base spare held t v d p) (hb : Rows.uptoBulk d ≤ 1048576) : ∃ v0 v1 l m, v = .agg #[v0, v1] ∧ Sl L w v0 l ∧ Sl M w v1 m := by
  obtain ⟨v0, v1, y0, y1, n, rfl, rfl, rfl, g0, g1⟩ := Joins.open_agg2 hs hone hC hv h
  simp only [Rows.uptoBulk, Rows.uptoBulkAll] at hb
  obtain ⟨l, v0', e0, k0⟩ := h0 H enc w base spare held n _ _ g0 (by omega)
  obtain ⟨m, v1', e1, k1⟩ := h1 H enc w base spare held n _ _ g1 (by omega)
  injection e0 with e0 _
  injection e1 with e1 _
  subst e0; subst e1
  exact ⟨v0, v1, l, m, rfl, k0, k1⟩
set_option maxRecDepth 100000 in
theorem arg_graph {H : Type} {enc : TypeId × Value → H} {w : World} {base b0 : Nat} {r : Reach} {spare : Nat → Bool} {held : Bool} {v : Value} {d : DataW H} {p : List MemPlace}
    (hv : Value.okWide Tryd.prog w r b0 25 v) (h : DataW.Trod enc Tryd.prog w base spare held 25 v d p) (hb : Rows.uptoBulk d ≤ 1048576) : ∃ v0 v1 g, v = .agg #[v0, v1] ∧ GrfR w v0 v1 g := by
  obtain ⟨v0, v1, l, m, rfl, h0, h1⟩ := arg_two Tryd.underlying25 (by kernel_rfl) (by kernel_rfl) o_nods o_ties hv h hb
  exact ⟨v0, v1, ⟨l, m⟩, rfl, h0, h1⟩

open Go

def laidOne : DataW Unit → Value
  | .lit (.int k z) => .int k z
  | .lit (.string b) => .string ⟨b.toArray⟩
  | _ => .int .i64 0
def laidTwo : DataW Unit → List Value
  | .agg ds => ds.map laidOne
  | d => [laidOne d]
def laidCells : DataW Unit → List Value
  | .agg ds => ds.flatMap laidTwo
  | d => [laidOne d]
/-- A row of heap objects, one variable's cells laid. -/
def layVar (h : Array Obj) (g : Nat) (d : DataW Unit) : Array Obj := h.modify g fun
  | .cells _ t frozen => .cells (laidCells d).toArray t frozen
  | o => o

theorem tab_of_reads {w : World} (h : Lib.VarReads Tryd.prog w "internal/strconv.uint64pow10" Rows.laid_internal_strconv_uint64pow10) : Lib.TabIs Tryd.prog w "internal/strconv.uint64pow10" .u64 Lib.pow10Tab := by
  obtain ⟨g, t, cs, fuel, p, h1, h2, h3, h4⟩ := h
  obtain rfl := Option.some.inj ((show Tryd.prog.globalNamed "internal/strconv.uint64pow10" = some 3 by kernel_rfl).symm.trans h1)
  obtain rfl := Option.some.inj ((show (Tryd.prog.globals[3]?).map (·.type) = some 114 by kernel_rfl).symm.trans h2)
  have e := Lib.cells_of_tab (zs := Lib.pow10Tab) Tryd.underlying114 Tryd.underlying98 (by kernel_rfl) (by kernel_rfl) h4
  unfold Lib.TabIs
  rw [h3, ← e]
theorem len_of_shaped {w : World} (h : w.ShapedOpen Tryd.prog) : ∃ m, w.cell? ⟨0, 0, none⟩ = some (.int .i64 m) :=
  cell_of_shapedOpen_int (zero := #[.int .i64 0]) (t := 3) h (of_decide_eq_true (by kernel_rfl)) (by kernel_rfl) rfl (by kernel_rfl) (by kernel_rfl) Tryd.underlying3
theorem txp_of {w : World} {l : List (String × DataW Unit)} (h : laidMet Tryd.prog l w) (hs : w.ShapedOpen Tryd.prog) (h1 : ("internal/strconv.uint64pow10", Rows.laid_internal_strconv_uint64pow10) ∈ l) : TxP w :=
  ⟨len_of_shaped hs, tab_of_reads (Lib.laidMet.reads h h1)⟩
end Go.Proofs.YtmbeeaohidgfgaaDoor
