/- Plain: the program's structs, read as data, lie as the layouts say (this program's numbers of types). -/
import Derived.Test.YtldonhgcifhpgaaOpenA
namespace Go.Proofs.Ytldonhgcifhpgaa
open Go Go.RowKit Go.Deep Go.ChangeShapes Go.WideShapes

theorem oInt : Opens Try.prog intL 3 := opens_int Try.underlying3
theorem oStr : Opens Try.prog strL 9 := opens_str Try.underlying9
theorem oBool : Opens Try.prog boolL 4 := opens_bool Try.underlying4

theorem o_val : Opens Try.prog valL 35 := by
  intro H enc w base spare held fuel cs x hx hb
  obtain ⟨hl, hf⟩ := field_at Try.underlying35 hx hb
  rw [show Try.prog.cellsOf 35 = 3 from by kernel_rfl] at hl
  match cs, hl with
  | [c0, c1, c2], _ =>
    obtain ⟨a0, e0, h0⟩ := hf (L := intL) 0 _ 1 rfl (by kernel_rfl) oInt
    have e0 : [c0] = [.int .i64 a0] := e0
    injection e0 with e0 _
    subst e0
    obtain ⟨a1, e1, h1⟩ := hf (L := intL) 1 _ 1 rfl (by kernel_rfl) oInt
    have e1 : [c1] = [.int .i64 a1] := e1
    injection e1 with e1 _
    subst e1
    obtain ⟨a2, e2, h2⟩ := hf (L := strL) 2 _ 1 rfl (by kernel_rfl) oStr
    have e2 : [c2] = [.string a2] := e2
    injection e2 with e2 _
    subst e2
    exact ⟨⟨a0, a1, a2⟩, rfl, h0, h1, h2⟩
theorem o_prp : Opens Try.prog prpL 48 := by
  intro H enc w base spare held fuel cs x hx hb
  obtain ⟨hl, hf⟩ := field_at Try.underlying48 hx hb
  rw [show Try.prog.cellsOf 48 = 4 from by kernel_rfl] at hl
  match cs, hl with
  | [c0, c1, c2, c3], _ =>
    obtain ⟨a0, e0, h0⟩ := hf (L := strL) 0 _ 1 rfl (by kernel_rfl) oStr
    have e0 : [c0] = [.string a0] := e0
    injection e0 with e0 _
    subst e0
    obtain ⟨v, e1, h1⟩ := hf (L := valL) 1 _ 3 rfl (by kernel_rfl) o_val
    have e1 : [c1, c2, c3] = [.int .i64 v.ty, .int .i64 v.n, .string v.s] := e1
    injection e1 with e1 e2
    injection e2 with e2 e3
    injection e3 with e3 _
    subst e1; subst e2; subst e3
    exact ⟨⟨a0, v⟩, rfl, h0, h1⟩
theorem o_fld : Opens Try.prog fldL 33 := by
  intro H enc w base spare held fuel cs x hx hb
  obtain ⟨hl, hf⟩ := field_at Try.underlying33 hx hb
  rw [show Try.prog.cellsOf 33 = 4 from by kernel_rfl] at hl
  match cs, hl with
  | [c0, c1, c2, c3], _ =>
    obtain ⟨a0, e0, h0⟩ := hf (L := strL) 0 _ 1 rfl (by kernel_rfl) oStr
    have e0 : [c0] = [.string a0] := e0
    injection e0 with e0 _
    subst e0
    obtain ⟨a1, e1, h1⟩ := hf (L := intL) 1 _ 1 rfl (by kernel_rfl) oInt
    have e1 : [c1] = [.int .i64 a1] := e1
    injection e1 with e1 _
    subst e1
    obtain ⟨a2, e2, h2⟩ := hf (L := boolL) 2 _ 1 rfl (by kernel_rfl) oBool
    have e2 : [c2] = [.bool a2] := e2
    injection e2 with e2 _
    subst e2
    obtain ⟨a3, e3, h3⟩ := hf (L := boolL) 3 _ 1 rfl (by kernel_rfl) oBool
    have e3 : [c3] = [.bool a3] := e3
    injection e3 with e3 _
    subst e3
    exact ⟨⟨a0, a1, a2, a3⟩, rfl, h0, h1⟩
theorem o_bnd : Opens Try.prog bndL 31 := by
  intro H enc w base spare held fuel cs x hx hb
  obtain ⟨hl, hf⟩ := field_at Try.underlying31 hx hb
  rw [show Try.prog.cellsOf 31 = 5 from by kernel_rfl] at hl
  match cs, hl with
  | [c0, c1, c2, c3, c4], _ =>
    obtain ⟨a0, e0, h0⟩ := hf (L := strL) 0 _ 1 rfl (by kernel_rfl) oStr
    have e0 : [c0] = [.string a0] := e0
    injection e0 with e0 _
    subst e0
    obtain ⟨a1, e1, h1⟩ := hf (L := strL) 1 _ 1 rfl (by kernel_rfl) oStr
    have e1 : [c1] = [.string a1] := e1
    injection e1 with e1 _
    subst e1
    obtain ⟨a2, e2, h2⟩ := hf (L := strL) 2 _ 1 rfl (by kernel_rfl) oStr
    have e2 : [c2] = [.string a2] := e2
    injection e2 with e2 _
    subst e2
    obtain ⟨a3, e3, h3⟩ := hf (L := intL) 3 _ 1 rfl (by kernel_rfl) oInt
    have e3 : [c3] = [.int .i64 a3] := e3
    injection e3 with e3 _
    subst e3
    obtain ⟨a4, e4, h4⟩ := hf (L := intL) 4 _ 1 rfl (by kernel_rfl) oInt
    have e4 : [c4] = [.int .i64 a4] := e4
    injection e4 with e4 _
    subst e4
    exact ⟨⟨a0, a1, a2, a3, a4⟩, rfl, h0, h1, h2, h3, h4⟩
theorem o_tie : Opens Try.prog tieL 74 := by
  intro H enc w base spare held fuel cs x hx hb
  obtain ⟨hl, hf⟩ := field_at Try.underlying74 hx hb
  rw [show Try.prog.cellsOf 74 = 3 from by kernel_rfl] at hl
  match cs, hl with
  | [c0, c1, c2], _ =>
    obtain ⟨a0, e0, h0⟩ := hf (L := strL) 0 _ 1 rfl (by kernel_rfl) oStr
    have e0 : [c0] = [.string a0] := e0
    injection e0 with e0 _
    subst e0
    obtain ⟨a1, e1, h1⟩ := hf (L := intL) 1 _ 1 rfl (by kernel_rfl) oInt
    have e1 : [c1] = [.int .i64 a1] := e1
    injection e1 with e1 _
    subst e1
    obtain ⟨a2, e2, h2⟩ := hf (L := intL) 2 _ 1 rfl (by kernel_rfl) oInt
    have e2 : [c2] = [.int .i64 a2] := e2
    injection e2 with e2 _
    subst e2
    exact ⟨⟨a0, a1, a2⟩, rfl, h0, h1, h2⟩
theorem o_rec : Opens Try.prog (slL prpL) 50 := Opens.slice Try.underlying50 (by kernel_rfl) (by decide) o_prp
theorem o_strs : Opens Try.prog (slL strL) 26 := Opens.slice Try.underlying26 (by kernel_rfl) (by decide) oStr
theorem o_flds : Opens Try.prog (slL fldL) 27 := Opens.slice Try.underlying27 (by kernel_rfl) (by decide) o_fld
theorem o_bnds : Opens Try.prog (slL bndL) 23 := Opens.slice Try.underlying23 (by kernel_rfl) (by decide) o_bnd
theorem o_ties : Opens Try.prog (slL tieL) 68 := Opens.slice Try.underlying68 (by kernel_rfl) (by decide) o_tie
theorem o_nod : Opens Try.prog nodL 72 := by
  intro H enc w base spare held fuel cs x hx hb
  obtain ⟨hl, hf⟩ := field_at Try.underlying72 hx hb
  rw [show Try.prog.cellsOf 72 = 3 from by kernel_rfl] at hl
  match cs, hl with
  | [c0, c1, c2], _ =>
    obtain ⟨a0, e0, h0⟩ := hf (L := intL) 0 _ 1 rfl (by kernel_rfl) oInt
    have e0 : [c0] = [.int .i64 a0] := e0
    injection e0 with e0 _
    subst e0
    obtain ⟨a1, e1, h1⟩ := hf (L := strL) 1 _ 1 rfl (by kernel_rfl) oStr
    have e1 : [c1] = [.string a1] := e1
    injection e1 with e1 _
    subst e1
    obtain ⟨a2, v2, e2, h2⟩ := hf (L := slL prpL) 2 _ 1 rfl (by kernel_rfl) o_rec
    have e2 : [c2] = [v2] := e2
    injection e2 with e2 _
    subst e2
    exact ⟨⟨a0, a1, a2⟩, c2, rfl, h0, h1, h2⟩
theorem o_nods : Opens Try.prog (slL nodL) 67 := Opens.slice Try.underlying67 (by kernel_rfl) (by decide) o_nod
theorem o_knd : Opens Try.prog kndL 29 := by
  intro H enc w base spare held fuel cs x hx hb
  obtain ⟨hl, hf⟩ := field_at Try.underlying29 hx hb
  rw [show Try.prog.cellsOf 29 = 3 from by kernel_rfl] at hl
  match cs, hl with
  | [c0, c1, c2], _ =>
    obtain ⟨a0, e0, h0⟩ := hf (L := strL) 0 _ 1 rfl (by kernel_rfl) oStr
    have e0 : [c0] = [.string a0] := e0
    injection e0 with e0 _
    subst e0
    obtain ⟨a1, v1, e1, h1⟩ := hf (L := slL strL) 1 _ 1 rfl (by kernel_rfl) o_strs
    have e1 : [c1] = [v1] := e1
    injection e1 with e1 _
    subst e1
    obtain ⟨a2, v2, e2, h2⟩ := hf (L := slL fldL) 2 _ 1 rfl (by kernel_rfl) o_flds
    have e2 : [c2] = [v2] := e2
    injection e2 with e2 _
    subst e2
    exact ⟨⟨a0, a1, a2⟩, c1, c2, rfl, h0, h1, h2⟩
theorem o_knds : Opens Try.prog (slL kndL) 22 := Opens.slice Try.underlying22 (by kernel_rfl) (by decide) o_knd

/-! ### Arguments -/
/-- A one-cell argument. -/
theorem arg_one {D : Type} {L : Lay D} {t : TypeId} {H : Type} {enc : TypeId × Value → H} {w : World} {base : Nat} {spare : Nat → Bool} {held : Bool} {v : Value} {d : DataW H} {p : List MemPlace}
    (ho : Opens Try.prog L t) (h : DataW.Trod enc Try.prog w base spare held t v d p) (hb : Rows.uptoBulk d ≤ 1048576) : ∃ x, L.cells w x v.cells.toList := by
  obtain ⟨fuel, hf⟩ := h
  exact ho H enc w base spare held fuel _ _ hf hb
set_option maxRecDepth 100000 in
/-- A struct of two slices. -/
theorem arg_two {D E : Type} {L : Lay D} {M : Lay E} {t : TypeId} {f0 f1 : Field} {H : Type} {enc : TypeId × Value → H} {w : World} {base b0 : Nat} {r : Reach} {spare : Nat → Bool} {held : Bool} {v : Value} {d : DataW H} {p : List MemPlace}
    (hs : Try.prog.underlying t = some (.struct #[f0, f1])) (hone : oneCellFields Try.prog #[f0, f1] = true) (hC : Try.prog.cellsOf t = 2) (h0 : Opens Try.prog (slL L) f0.type) (h1 : Opens Try.prog (slL M) f1.type)
    (hv : Value.okWide Try.prog w r b0 t v) (h : DataW.Trod enc Try.prog w base spare held t v d p) (hb : Rows.uptoBulk d ≤ 1048576) : ∃ v0 v1 l m, v = .agg #[v0, v1] ∧ Sl L w v0 l ∧ Sl M w v1 m := by
  obtain ⟨v0, v1, y0, y1, n, rfl, rfl, rfl, g0, g1⟩ := Joins.open_agg2 hs hone hC hv h
  simp only [Rows.uptoBulk, Rows.uptoBulkAll] at hb
  obtain ⟨l, v0', e0, k0⟩ := h0 H enc w base spare held n _ _ g0 (by omega)
  obtain ⟨m, v1', e1, k1⟩ := h1 H enc w base spare held n _ _ g1 (by omega)
  injection e0 with e0 _
  injection e1 with e1 _
  subst e0; subst e1
  exact ⟨v0, v1, l, m, rfl, k0, k1⟩
set_option maxRecDepth 100000 in
theorem arg_graph {H : Type} {enc : TypeId × Value → H} {w : World} {base b0 : Nat} {r : Reach} {spare : Nat → Bool} {held : Bool} {v : Value} {d : DataW H} {p : List MemPlace}
    (hv : Value.okWide Try.prog w r b0 70 v) (h : DataW.Trod enc Try.prog w base spare held 70 v d p) (hb : Rows.uptoBulk d ≤ 1048576) : ∃ v0 v1 g, v = .agg #[v0, v1] ∧ GrfR w v0 v1 g := by
  obtain ⟨v0, v1, l, m, rfl, h0, h1⟩ := arg_two Try.underlying70 (by kernel_rfl) (by kernel_rfl) o_nods o_ties hv h hb
  exact ⟨v0, v1, ⟨l, m⟩, rfl, h0, h1⟩
set_option maxRecDepth 100000 in
theorem arg_schema {H : Type} {enc : TypeId × Value → H} {w : World} {base b0 : Nat} {r : Reach} {spare : Nat → Bool} {held : Bool} {v : Value} {d : DataW H} {p : List MemPlace}
    (hv : Value.okWide Try.prog w r b0 25 v) (h : DataW.Trod enc Try.prog w base spare held 25 v d p) (hb : Rows.uptoBulk d ≤ 1048576) : ∃ v0 v1 g, v = .agg #[v0, v1] ∧ ScmR w v0 v1 g := by
  obtain ⟨v0, v1, l, m, rfl, h0, h1⟩ := arg_two Try.underlying25 (by kernel_rfl) (by kernel_rfl) o_knds o_bnds hv h hb
  exact ⟨v0, v1, ⟨l, m⟩, rfl, h0, h1⟩
end Go.Proofs.Ytldonhgcifhpgaa
