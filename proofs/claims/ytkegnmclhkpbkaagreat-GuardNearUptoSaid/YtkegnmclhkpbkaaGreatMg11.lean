/- Parts: HldG, OpenA, OpenB, OpenC, OpenF, EmptyP, OpR. -/
import Derived.Test.YtkegnmclhkpbkaaGreatMg10
import Derived.Test.YtkegnmclhkpbkaaGreatMg01
import Derived.Test.YtkegnmclhkpbkaaGreatRows
import Derived.Deep.Slices
import Derived.Lib.SmallJoins
import Derived.JoinedCond
import Derived.Carry
import Derived.ChangeMaps5
import Derived.Test.YtkegnmclhkpbkaaGreatMg07
import Derived.Test.YtkegnmclhkpbkaaGreatMg04
import Derived.Test.YtkegnmclhkpbkaaGreatMg06
/- Plain: a graph that stays where a box of a graph is written. No condition. -/
namespace Go.Proofs.YtkegnmclhkpbkaaGreat
open Go Go.RowKit

/-- A graph that stays where a graph's box is written: the call's own, or one that was there before. -/
def Held (WB : World) (wr : World) (vn vt : Value) (g : Grf) : Prop := (∃ B xs, OwnG wr B vn vt g xs) ∨ GrfR WB vn vt g
theorem Held.r {WB wr : World} {vn vt : Value} {g : Grf} (h : Held WB wr vn vt g) (hb : Below WB.heap.size WB wr) : GrfR wr vn vt g := by
  rcases h with ⟨B, xs, h⟩ | h
  · exact h.r
  · exact h.below hb
theorem Held.below {WB wr wx : World} {vn vt : Value} {g : Grf} (h : Held WB wr vn vt g) (hb : Below wr.heap.size wr wx) : Held WB wx vn vt g := by
  rcases h with ⟨B, xs, h⟩ | h
  · exact .inl ⟨B, xs, h.below hb⟩
  · exact .inr h
theorem Held.set {WB wr : World} {vn vt : Value} {g : Grf} (h : Held WB wr vn vt g) {b : Nat} {c : Array Value} {fr : Nat × Nat} (hb : wr.heap[b]? = some (.cells c 29 fr)) (i : Nat) (u : Value) : Held WB (wr.setCell ⟨b, i, none⟩ u) vn vt g := by
  have hS : ∀ T, 29 ≠ T → Same T wr (wr.setCell ⟨b, i, none⟩ u) := fun T hT => Same.setCell (p := ⟨b, i, none⟩) hb hT _
  rcases h with ⟨B, xs, h⟩ | h
  · exact .inl ⟨B, xs, h.same (hS _ (by decide)) (hS _ (by decide)) (hS _ (by decide))⟩
  · exact .inr h
theorem Held.put {WB wr wx : World} {vn vt : Value} {g : Grf} (h : Held WB wr vn vt g) (hs : ∀ T, Same T wr wx) : Held WB wx vn vt g := by
  rcases h with ⟨B, xs, h⟩ | h
  · exact .inl ⟨B, xs, h.same (hs _) (hs _) (hs _)⟩
  · exact .inr h
end Go.Proofs.YtkegnmclhkpbkaaGreat

/- Plain: what comes in, read as data of bulk at most 1048576, lies in memory as the contracts want it. -/
namespace Go.Proofs.YtkegnmclhkpbkaaGreat
open Go Go.RowKit Go.Deep Go.ChangeShapes Go.WideShapes Go.Joins

/-! ### Bulk -/
section
variable {H : Type}
theorem bulk_part {d : DataW H} {l : List (DataW H)} (h : d ∈ l) : Rows.uptoBulk d ≤ Rows.uptoBulkAll l := by
  induction l with
  | nil => cases h
  | cons x r ih =>
    simp only [Rows.uptoBulkAll]
    cases List.mem_cons.1 h with
    | inl e => subst e; omega
    | inr e => have := ih e; omega
theorem bulk_small {ds : List (DataW H)} (hk : Rows.uptoSmall H ds = true) {d : DataW H} (h : d ∈ ds) : Rows.uptoBulk d ≤ 1048576 := by
  have h1 : Rows.uptoBulkAll ds ≤ 1048576 := of_decide_eq_true hk
  have := bulk_part h
  omega
end

/-- Data of type t lie as L says. -/
def Opens {D : Type} (P : Program) (L : Lay D) (t : TypeId) : Prop :=
  ∀ (H : Type) (enc : TypeId × Value → H) (w : World) (base : Nat) (spare : Nat → Bool) (held : Bool) (fuel : Nat) (cs : List Value) (x : DataW H × List MemPlace),
    DataW.trod enc P w base spare held fuel t cs = some x → Rows.uptoBulk x.1 ≤ 1048576 → ∃ d, L.cells w d cs

theorem add_off (b o n : Nat) : (⟨b, o, none⟩ : Addr).add n = ⟨b, o + n, none⟩ := by
  unfold Addr.add
  split
  · rename_i h; subst h; rfl
  · rfl

theorem rows_of {D : Type} {L : Lay D} {w : World} {a : Addr} {len : Nat} (h : ∀ i, i < len → ∃ d cs, L.cells w d cs ∧ ∀ j u, cs[j]? = some u → w.cell? ((a.add (i * L.sz)).add j) = some u) :
    ∀ k, k ≤ len → ∃ l : List D, l.length = k ∧ ∀ i d, l[i]? = some d → ∃ cs, L.cells w d cs ∧ ∀ j u, cs[j]? = some u → w.cell? ((a.add (i * L.sz)).add j) = some u
  | 0, _ => ⟨[], rfl, fun i d hi => by simp at hi⟩
  | k + 1, hk => by
    obtain ⟨l, hl, hall⟩ := rows_of h k (by omega)
    obtain ⟨d, cs, hc, hcell⟩ := h k (by omega)
    refine ⟨l ++ [d], by simp [hl], fun i x hi => ?_⟩
    by_cases hik : i < l.length
    · rw [List.getElem?_append_left hik] at hi
      exact hall i x hi
    · rw [List.getElem?_append_right (by omega)] at hi
      have e1 : i - l.length = 0 := by
        have := (List.getElem?_eq_some_iff.1 hi).1
        simp at this; omega
      rw [e1] at hi
      simp at hi
      subst hi
      obtain rfl : i = k := by omega
      exact ⟨cs, hc, hcell⟩

theorem Opens.slice {D : Type} {P : Program} {L : Lay D} {t e : TypeId} (ht : P.underlying t = some (.slice e)) (hC : P.cellsOf e = L.sz) (hs : 0 < L.sz) (h : Opens P L e) : Opens P (slL L) t := by
  intro H enc w base spare held fuel cs x hx hb
  rcases open_slice ht hx with ⟨rfl, rfl⟩ | ⟨a, len, cap, m, n, D', Pl, rfl, hbb, hl, hm, hmm, rfl, hi⟩
  · exact ⟨[], _, rfl, Sl.nil 0 (by unfold maxLen; omega) none⟩
  · have hm' : len ≤ m := by rw [hmm]; split <;> omega
    have hbA : Rows.uptoBulkAll ((List.range len).map D') ≤ 1048576 := by
      simp only [Rows.uptoBulk] at hb
      omega
    have each : ∀ i, i < len → ∃ d cs, L.cells w d cs ∧ ∀ j u, cs[j]? = some u → w.cell? ((a.add (i * L.sz)).add j) = some u := fun i hil => by
      obtain ⟨cs', hc, ht'⟩ := hi i (by omega)
      rw [hC] at hc
      obtain ⟨_, hcl, hat⟩ := World.cells?_some hc
      have hbi : Rows.uptoBulk (D' i) ≤ 1048576 := by
        have := bulk_part (d := D' i) (l := (List.range len).map D') (List.mem_map.2 ⟨i, List.mem_range.2 hil, rfl⟩)
        omega
      obtain ⟨d, hd⟩ := h H enc w base spare held n cs' _ ht' hbi
      refine ⟨d, cs', hd, fun j u hj => ?_⟩
      have hjl : j < L.sz := by have := (List.getElem?_eq_some_iff.1 hj).1; omega
      rw [hat j hjl, hj]
    by_cases h0 : len = 0
    · subst h0
      exact ⟨[], _, rfl, Sl.nil cap hm (some a)⟩
    · obtain ⟨b, o, spot⟩ := a
      have hspot : spot = none := by
        obtain ⟨d, cs', hd, hcell⟩ := each 0 (by omega)
        have hl0 := L.len hd
        have h1 := hcell 0 _ (List.getElem?_eq_getElem (by omega))
        simpa [Addr.add] using World.cell?_spot h1
      subst hspot
      obtain ⟨l, hll, hall⟩ := rows_of each len (Nat.le_refl _)
      subst hll
      refine ⟨l, _, rfl, _, cap, rfl, hl, hm, fun i d hid => ?_⟩
      obtain ⟨cs', hd, hcell⟩ := hall i d hid
      refine ⟨b, o, cs', rfl, hd, fun j u hj => ?_⟩
      have := hcell j u hj
      rw [add_off, add_off, Nat.add_assoc] at this
      exact this

theorem field_at {H : Type} {enc : TypeId × Value → H} {P : Program} {w : World} {base : Nat} {spare : Nat → Bool} {held : Bool} {t : TypeId} {fs : Array Field} {fuel : Nat} {cs : List Value} {x : DataW H × List MemPlace}
    (ht : P.underlying t = some (.struct fs)) (h : DataW.trod enc P w base spare held fuel t cs = some x) (hb : Rows.uptoBulk x.1 ≤ 1048576) :
    cs.length = P.cellsOf t ∧ ∀ {D : Type} {L : Lay D} (i : Nat) (f : Field) (k : Nat), fs[i]? = some f → P.cellsOf f.type = k → Opens P L f.type → ∃ d, L.cells w d ((cs.drop f.offset).take k) := by
  obtain ⟨xs, n, _, rfl, hl, hxl, hf⟩ := DataW.trod_struct ht h
  refine ⟨hl, fun i f k hi hk ho => ?_⟩
  have h1 := hf i f hi
  have hil : i < xs.length := by have := (Array.getElem?_eq_some_iff.1 hi).1; omega
  obtain ⟨y, hy⟩ : ∃ y, xs[i]? = some y := ⟨_, List.getElem?_eq_getElem hil⟩
  rw [hy, hk] at h1
  refine ho H enc w base spare held n _ y h1 ?_
  have := bulk_part (d := y.1) (l := xs.map (·.1)) (List.mem_map.2 ⟨y, List.mem_of_getElem? hy, rfl⟩)
  simp only [Rows.uptoBulk] at hb
  omega

theorem opens_int {P : Program} {t : TypeId} (ht : P.underlying t = some (.int .i64)) : Opens P intL t := by
  intro H enc w base spare held fuel cs x hx hb
  obtain ⟨n, rfl, rfl, hw⟩ := DataW.trod_int ht hx
  refine ⟨n, rfl, ?_⟩
  have e1 : IntKind.i64.min = -9223372036854775808 := rfl
  have e2 : IntKind.i64.max = 9223372036854775807 := rfl
  simp [Lit.wf, e1, e2] at hw
  exact hw
theorem opens_str {P : Program} {t : TypeId} (ht : P.underlying t = some .string) : Opens P strL t := by
  intro H enc w base spare held fuel cs x hx hb
  obtain ⟨s, rfl, rfl, hw⟩ := DataW.trod_string ht hx
  refine ⟨s, rfl, ?_⟩
  simp only [Rows.uptoBulk, Array.length_toList] at hb
  show s.data.size ≤ 1048576
  omega
def boolL : Lay Bool := flatL 1 (fun _ => True) (fun b => [.bool b]) (fun _ => rfl)
theorem opens_bool {P : Program} {t : TypeId} (ht : P.underlying t = some .bool) : Opens P boolL t := by
  intro H enc w base spare held fuel cs x hx hb
  obtain ⟨b, rfl, rfl⟩ := DataW.trod_bool ht hx
  exact ⟨b, rfl, trivial⟩
end Go.Proofs.YtkegnmclhkpbkaaGreat

/- Plain: the program's structs, read as data, lie as the layouts say (this program's numbers of types). -/
namespace Go.Proofs.YtkegnmclhkpbkaaGreat
open Go Go.RowKit Go.Deep Go.ChangeShapes Go.WideShapes

theorem oInt : Opens Tryz.prog intL 3 := opens_int Tryz.underlying3
theorem oStr : Opens Tryz.prog strL 9 := opens_str Tryz.underlying9
theorem oBool : Opens Tryz.prog boolL 4 := opens_bool Tryz.underlying4

theorem o_val : Opens Tryz.prog valL 43 := by
  intro H enc w base spare held fuel cs x hx hb
  obtain ⟨hl, hf⟩ := field_at Tryz.underlying43 hx hb
  rw [show Tryz.prog.cellsOf 43 = 3 from by kernel_rfl] at hl
  match cs, hl with
  | [c0, c1, c2], _ =>
    obtain ⟨a0, e0, h0⟩ := hf (L := intL) 0 _ 1 rfl (by kernel_rfl) oInt
    have e0 : [c0] = [.int .i64 a0] := e0
    injection e0 with e0 _
    subst e0
    obtain ⟨a1, e1, h1⟩ := hf (L := intL) 1 _ 1 rfl (by kernel_rfl) oInt
    have e1 : [c1] = [.int .i64 a1] := e1
    injection e1 with e1 _
    subst e1
    obtain ⟨a2, e2, h2⟩ := hf (L := strL) 2 _ 1 rfl (by kernel_rfl) oStr
    have e2 : [c2] = [.string a2] := e2
    injection e2 with e2 _
    subst e2
    exact ⟨⟨a0, a1, a2⟩, rfl, h0, h1, h2⟩
theorem o_prp : Opens Tryz.prog prpL 45 := by
  intro H enc w base spare held fuel cs x hx hb
  obtain ⟨hl, hf⟩ := field_at Tryz.underlying45 hx hb
  rw [show Tryz.prog.cellsOf 45 = 4 from by kernel_rfl] at hl
  match cs, hl with
  | [c0, c1, c2, c3], _ =>
    obtain ⟨a0, e0, h0⟩ := hf (L := strL) 0 _ 1 rfl (by kernel_rfl) oStr
    have e0 : [c0] = [.string a0] := e0
    injection e0 with e0 _
    subst e0
    obtain ⟨v, e1, h1⟩ := hf (L := valL) 1 _ 3 rfl (by kernel_rfl) o_val
    have e1 : [c1, c2, c3] = [.int .i64 v.ty, .int .i64 v.n, .string v.s] := e1
    injection e1 with e1 e2
    injection e2 with e2 e3
    injection e3 with e3 _
    subst e1; subst e2; subst e3
    exact ⟨⟨a0, v⟩, rfl, h0, h1⟩
theorem o_fld : Opens Tryz.prog fldL 135 := by
  intro H enc w base spare held fuel cs x hx hb
  obtain ⟨hl, hf⟩ := field_at Tryz.underlying135 hx hb
  rw [show Tryz.prog.cellsOf 135 = 4 from by kernel_rfl] at hl
  match cs, hl with
  | [c0, c1, c2, c3], _ =>
    obtain ⟨a0, e0, h0⟩ := hf (L := strL) 0 _ 1 rfl (by kernel_rfl) oStr
    have e0 : [c0] = [.string a0] := e0
    injection e0 with e0 _
    subst e0
    obtain ⟨a1, e1, h1⟩ := hf (L := intL) 1 _ 1 rfl (by kernel_rfl) oInt
    have e1 : [c1] = [.int .i64 a1] := e1
    injection e1 with e1 _
    subst e1
    obtain ⟨a2, e2, h2⟩ := hf (L := boolL) 2 _ 1 rfl (by kernel_rfl) oBool
    have e2 : [c2] = [.bool a2] := e2
    injection e2 with e2 _
    subst e2
    obtain ⟨a3, e3, h3⟩ := hf (L := boolL) 3 _ 1 rfl (by kernel_rfl) oBool
    have e3 : [c3] = [.bool a3] := e3
    injection e3 with e3 _
    subst e3
    exact ⟨⟨a0, a1, a2, a3⟩, rfl, h0, h1⟩
theorem o_bnd : Opens Tryz.prog bndL 109 := by
  intro H enc w base spare held fuel cs x hx hb
  obtain ⟨hl, hf⟩ := field_at Tryz.underlying109 hx hb
  rw [show Tryz.prog.cellsOf 109 = 5 from by kernel_rfl] at hl
  match cs, hl with
  | [c0, c1, c2, c3, c4], _ =>
    obtain ⟨a0, e0, h0⟩ := hf (L := strL) 0 _ 1 rfl (by kernel_rfl) oStr
    have e0 : [c0] = [.string a0] := e0
    injection e0 with e0 _
    subst e0
    obtain ⟨a1, e1, h1⟩ := hf (L := strL) 1 _ 1 rfl (by kernel_rfl) oStr
    have e1 : [c1] = [.string a1] := e1
    injection e1 with e1 _
    subst e1
    obtain ⟨a2, e2, h2⟩ := hf (L := strL) 2 _ 1 rfl (by kernel_rfl) oStr
    have e2 : [c2] = [.string a2] := e2
    injection e2 with e2 _
    subst e2
    obtain ⟨a3, e3, h3⟩ := hf (L := intL) 3 _ 1 rfl (by kernel_rfl) oInt
    have e3 : [c3] = [.int .i64 a3] := e3
    injection e3 with e3 _
    subst e3
    obtain ⟨a4, e4, h4⟩ := hf (L := intL) 4 _ 1 rfl (by kernel_rfl) oInt
    have e4 : [c4] = [.int .i64 a4] := e4
    injection e4 with e4 _
    subst e4
    exact ⟨⟨a0, a1, a2, a3, a4⟩, rfl, h0, h1, h2, h3, h4⟩
theorem o_tie : Opens Tryz.prog tieL 36 := by
  intro H enc w base spare held fuel cs x hx hb
  obtain ⟨hl, hf⟩ := field_at Tryz.underlying36 hx hb
  rw [show Tryz.prog.cellsOf 36 = 3 from by kernel_rfl] at hl
  match cs, hl with
  | [c0, c1, c2], _ =>
    obtain ⟨a0, e0, h0⟩ := hf (L := strL) 0 _ 1 rfl (by kernel_rfl) oStr
    have e0 : [c0] = [.string a0] := e0
    injection e0 with e0 _
    subst e0
    obtain ⟨a1, e1, h1⟩ := hf (L := intL) 1 _ 1 rfl (by kernel_rfl) oInt
    have e1 : [c1] = [.int .i64 a1] := e1
    injection e1 with e1 _
    subst e1
    obtain ⟨a2, e2, h2⟩ := hf (L := intL) 2 _ 1 rfl (by kernel_rfl) oInt
    have e2 : [c2] = [.int .i64 a2] := e2
    injection e2 with e2 _
    subst e2
    exact ⟨⟨a0, a1, a2⟩, rfl, h0, h1, h2⟩
theorem o_rec : Opens Tryz.prog (slL prpL) 32 := Opens.slice Tryz.underlying32 (by kernel_rfl) (by decide) o_prp
theorem o_strs : Opens Tryz.prog (slL strL) 171 := Opens.slice Tryz.underlying171 (by kernel_rfl) (by decide) oStr
theorem o_flds : Opens Tryz.prog (slL fldL) 131 := Opens.slice Tryz.underlying131 (by kernel_rfl) (by decide) o_fld
theorem o_bnds : Opens Tryz.prog (slL bndL) 23 := Opens.slice Tryz.underlying23 (by kernel_rfl) (by decide) o_bnd
theorem o_ties : Opens Tryz.prog (slL tieL) 27 := Opens.slice Tryz.underlying27 (by kernel_rfl) (by decide) o_tie
theorem o_nod : Opens Tryz.prog nodL 34 := by
  intro H enc w base spare held fuel cs x hx hb
  obtain ⟨hl, hf⟩ := field_at Tryz.underlying34 hx hb
  rw [show Tryz.prog.cellsOf 34 = 3 from by kernel_rfl] at hl
  match cs, hl with
  | [c0, c1, c2], _ =>
    obtain ⟨a0, e0, h0⟩ := hf (L := intL) 0 _ 1 rfl (by kernel_rfl) oInt
    have e0 : [c0] = [.int .i64 a0] := e0
    injection e0 with e0 _
    subst e0
    obtain ⟨a1, e1, h1⟩ := hf (L := strL) 1 _ 1 rfl (by kernel_rfl) oStr
    have e1 : [c1] = [.string a1] := e1
    injection e1 with e1 _
    subst e1
    obtain ⟨a2, v2, e2, h2⟩ := hf (L := slL prpL) 2 _ 1 rfl (by kernel_rfl) o_rec
    have e2 : [c2] = [v2] := e2
    injection e2 with e2 _
    subst e2
    exact ⟨⟨a0, a1, a2⟩, c2, rfl, h0, h1, h2⟩
theorem o_nods : Opens Tryz.prog (slL nodL) 26 := Opens.slice Tryz.underlying26 (by kernel_rfl) (by decide) o_nod
theorem o_knd : Opens Tryz.prog kndL 177 := by
  intro H enc w base spare held fuel cs x hx hb
  obtain ⟨hl, hf⟩ := field_at Tryz.underlying177 hx hb
  rw [show Tryz.prog.cellsOf 177 = 3 from by kernel_rfl] at hl
  match cs, hl with
  | [c0, c1, c2], _ =>
    obtain ⟨a0, e0, h0⟩ := hf (L := strL) 0 _ 1 rfl (by kernel_rfl) oStr
    have e0 : [c0] = [.string a0] := e0
    injection e0 with e0 _
    subst e0
    obtain ⟨a1, v1, e1, h1⟩ := hf (L := slL strL) 1 _ 1 rfl (by kernel_rfl) o_strs
    have e1 : [c1] = [v1] := e1
    injection e1 with e1 _
    subst e1
    obtain ⟨a2, v2, e2, h2⟩ := hf (L := slL fldL) 2 _ 1 rfl (by kernel_rfl) o_flds
    have e2 : [c2] = [v2] := e2
    injection e2 with e2 _
    subst e2
    exact ⟨⟨a0, a1, a2⟩, c1, c2, rfl, h0, h1, h2⟩
theorem o_knds : Opens Tryz.prog (slL kndL) 22 := Opens.slice Tryz.underlying22 (by kernel_rfl) (by decide) o_knd

/-! ### Arguments -/
/-- A one-cell argument. -/
theorem arg_one {D : Type} {L : Lay D} {t : TypeId} {H : Type} {enc : TypeId × Value → H} {w : World} {base : Nat} {spare : Nat → Bool} {held : Bool} {v : Value} {d : DataW H} {p : List MemPlace}
    (ho : Opens Tryz.prog L t) (h : DataW.Trod enc Tryz.prog w base spare held t v d p) (hb : Rows.uptoBulk d ≤ 1048576) : ∃ x, L.cells w x v.cells.toList := by
  obtain ⟨fuel, hf⟩ := h
  exact ho H enc w base spare held fuel _ _ hf hb
set_option maxRecDepth 100000 in
/-- A struct of two slices. -/
theorem arg_two {D E : Type} {L : Lay D} {M : Lay E} {t : TypeId} {f0 f1 : Field} {H : Type} {enc : TypeId × Value → H} {w : World} {base b0 : Nat} {r : Reach} {spare : Nat → Bool} {held : Bool} {v : Value} {d : DataW H} {p : List MemPlace}
    (hs : Tryz.prog.underlying t = some (.struct #[f0, f1])) (hone : oneCellFields Tryz.prog #[f0, f1] = true) (hC : Tryz.prog.cellsOf t = 2) (h0 : Opens Tryz.prog (slL L) f0.type) (h1 : Opens Tryz.prog (slL M) f1.type)
    (hv : Value.okWide Tryz.prog w r b0 t v) (h : DataW.Trod enc Tryz.prog w base spare held t v d p) (hb : Rows.uptoBulk d ≤ 1048576) : ∃ v0 v1 l m, v = .agg #[v0, v1] ∧ Sl L w v0 l ∧ Sl M w v1 m := by
  obtain ⟨v0, v1, y0, y1, n, rfl, rfl, rfl, g0, g1⟩ := Joins.open_agg2 hs hone hC hv h
  simp only [Rows.uptoBulk, Rows.uptoBulkAll] at hb
  obtain ⟨l, v0', e0, k0⟩ := h0 H enc w base spare held n _ _ g0 (by omega)
  obtain ⟨m, v1', e1, k1⟩ := h1 H enc w base spare held n _ _ g1 (by omega)
  injection e0 with e0 _
  injection e1 with e1 _
  subst e0; subst e1
  exact ⟨v0, v1, l, m, rfl, k0, k1⟩
set_option maxRecDepth 100000 in
theorem arg_graph {H : Type} {enc : TypeId × Value → H} {w : World} {base b0 : Nat} {r : Reach} {spare : Nat → Bool} {held : Bool} {v : Value} {d : DataW H} {p : List MemPlace}
    (hv : Value.okWide Tryz.prog w r b0 29 v) (h : DataW.Trod enc Tryz.prog w base spare held 29 v d p) (hb : Rows.uptoBulk d ≤ 1048576) : ∃ v0 v1 g, v = .agg #[v0, v1] ∧ GrfR w v0 v1 g := by
  obtain ⟨v0, v1, l, m, rfl, h0, h1⟩ := arg_two Tryz.underlying29 (by kernel_rfl) (by kernel_rfl) o_nods o_ties hv h hb
  exact ⟨v0, v1, ⟨l, m⟩, rfl, h0, h1⟩
set_option maxRecDepth 100000 in
theorem arg_schema {H : Type} {enc : TypeId × Value → H} {w : World} {base b0 : Nat} {r : Reach} {spare : Nat → Bool} {held : Bool} {v : Value} {d : DataW H} {p : List MemPlace}
    (hv : Value.okWide Tryz.prog w r b0 25 v) (h : DataW.Trod enc Tryz.prog w base spare held 25 v d p) (hb : Rows.uptoBulk d ≤ 1048576) : ∃ v0 v1 g, v = .agg #[v0, v1] ∧ ScmR w v0 v1 g := by
  obtain ⟨v0, v1, l, m, rfl, h0, h1⟩ := arg_two Tryz.underlying25 (by kernel_rfl) (by kernel_rfl) o_knds o_bnds hv h hb
  exact ⟨v0, v1, ⟨l, m⟩, rfl, h0, h1⟩
end Go.Proofs.YtkegnmclhkpbkaaGreat

/- Plain: arguments that are one cell: texts, numbers, bools, slices. -/
namespace Go.Proofs.YtkegnmclhkpbkaaGreat
open Go Go.RowKit Go.Deep Go.ChangeShapes Go.WideShapes

set_option maxRecDepth 100000 in
theorem arg_str {H : Type} {enc : TypeId × Value → H} {w : World} {base b0 : Nat} {r : Reach} {spare : Nat → Bool} {held : Bool} {v : Value} {d : DataW H} {p : List MemPlace}
    (hv : Value.okWide Tryz.prog w r b0 9 v) (h : DataW.Trod enc Tryz.prog w base spare held 9 v d p) (hb : Rows.uptoBulk d ≤ 1048576) : ∃ s, v = .string s ∧ Sm s := by
  obtain ⟨s, rfl, rfl, _, _⟩ := ChangeMaps.open_string Tryz.underlying9 hv h
  refine ⟨s, rfl, ?_⟩
  have hb' : s.data.toList.length + 1 ≤ 1048576 := hb
  clear hb
  unfold Sm
  have : s.data.toList.length = s.size := Array.length_toList
  omega
set_option maxRecDepth 100000 in
theorem arg_int {H : Type} {enc : TypeId × Value → H} {w : World} {base b0 : Nat} {r : Reach} {spare : Nat → Bool} {held : Bool} {v : Value} {d : DataW H} {p : List MemPlace}
    (hv : Value.okWide Tryz.prog w r b0 3 v) (h : DataW.Trod enc Tryz.prog w base spare held 3 v d p) : ∃ n, v = .int .i64 n ∧ I64 n := by
  obtain ⟨n, rfl, _, _, hn⟩ := open_int Tryz.underlying3 hv h
  refine ⟨n, rfl, ?_⟩
  have := hn
  simp only [Lit.wf, Bool.and_eq_true, decide_eq_true_eq] at this
  exact this
set_option maxRecDepth 100000 in
theorem arg_bool {H : Type} {enc : TypeId × Value → H} {w : World} {base b0 : Nat} {r : Reach} {spare : Nat → Bool} {held : Bool} {v : Value} {d : DataW H} {p : List MemPlace}
    (hv : Value.okWide Tryz.prog w r b0 4 v) (h : DataW.Trod enc Tryz.prog w base spare held 4 v d p) : ∃ b, v = .bool b := by
  obtain ⟨b, rfl, _, _⟩ := open_bool Tryz.underlying4 hv h
  exact ⟨b, rfl⟩
set_option maxRecDepth 100000 in
theorem arg_sl {D : Type} {L : Lay D} {t e : TypeId} {H : Type} {enc : TypeId × Value → H} {w : World} {base b0 : Nat} {r : Reach} {spare : Nat → Bool} {held : Bool} {v : Value} {d : DataW H} {p : List MemPlace}
    (ht : Tryz.prog.underlying t = some (.slice e)) (ho : Opens Tryz.prog (slL L) t) (hv : Value.okWide Tryz.prog w r b0 t v) (h : DataW.Trod enc Tryz.prog w base spare held t v d p) (hb : Rows.uptoBulk d ≤ 1048576) : ∃ l, Sl L w v l := by
  obtain ⟨l, v', e1, h1⟩ := arg_one ho h hb
  obtain ⟨a, n, c, rfl⟩ := okWide_slice ht hv
  simp only [Value.cells, List.cons.injEq, and_true] at e1
  subst e1
  exact ⟨l, h1⟩
end Go.Proofs.YtkegnmclhkpbkaaGreat

/- Plain: ops as an argument. -/
namespace Go.Proofs.YtkegnmclhkpbkaaGreat
open Go Go.RowKit Go.Deep Go.ChangeShapes Go.WideShapes Go.Joins

def oprL : Lay Opr where
  sz := 11
  cells w o cs := ∃ vr, cs = (oprCells o vr).toList ∧ OprR w vr o
  len h := by obtain ⟨v, rfl, _⟩ := h; rfl
  below hb h := by obtain ⟨v, rfl, h1⟩ := h; exact ⟨v, rfl, h1.below hb⟩
set_option maxRecDepth 100000 in
theorem o_opr : Opens Tryz.prog oprL 47 := by
  intro H enc w base spare held fuel cs x hx hb
  obtain ⟨hl, hf⟩ := field_at Tryz.underlying47 hx hb
  rw [show Tryz.prog.cellsOf 47 = 11 from by kernel_rfl] at hl
  match cs, hl with
  | [c0, c1, c2, c3, c4, c5, c6, c7, c8, c9, c10], _ =>
    obtain ⟨a0, e0, h0⟩ := hf (L := intL) 0 _ 1 rfl (by kernel_rfl) oInt
    have e0 : [c0] = [.int .i64 a0] := e0
    injection e0 with e0 _
    subst e0
    obtain ⟨a1, vr, e1, k0, k1, k2⟩ := hf (L := nodL) 1 _ 3 rfl (by kernel_rfl) o_nod
    have e1 : [c1, c2, c3] = [.int .i64 a1.id, .string a1.kind, vr] := e1
    injection e1 with e1 e2
    injection e2 with e2 e3
    injection e3 with e3 _
    subst e1; subst e2; subst e3
    obtain ⟨a2, e4, h4⟩ := hf (L := prpL) 2 _ 4 rfl (by kernel_rfl) o_prp
    have e4 : [c4, c5, c6, c7] = [.string a2.name, .int .i64 a2.v.ty, .int .i64 a2.v.n, .string a2.v.s] := e4
    injection e4 with e4 e5
    injection e5 with e5 e6
    injection e6 with e6 e7
    injection e7 with e7 _
    subst e4; subst e5; subst e6; subst e7
    obtain ⟨a3, e8, h8⟩ := hf (L := tieL) 3 _ 3 rfl (by kernel_rfl) o_tie
    have e8 : [c8, c9, c10] = [.string a3.bond, .int .i64 a3.src, .int .i64 a3.dst] := e8
    injection e8 with e8 e9
    injection e9 with e9 e10
    injection e10 with e10 _
    subst e8; subst e9; subst e10
    exact ⟨⟨a0, a1, a2, a3⟩, c3, rfl, ⟨k2, k1, k0, h4, h8⟩⟩
theorem o_oprs : Opens Tryz.prog (slL oprL) 30 := Opens.slice Tryz.underlying30 (by kernel_rfl) (by decide) o_opr
theorem opr_at {w : World} {A : Option Addr} {k n c : Nat} {l : List Opr} (h : Sl oprL w (.slice A n c) l) {d : Opr} (hk : l[k]? = some d) :
    ∃ b o vr, A = some ⟨b, o, none⟩ ∧ OprR w vr d ∧ ∀ j u, (oprCells d vr).toList[j]? = some u → w.cell? ⟨b, o + k * 11 + j, none⟩ = some u := by
  obtain ⟨b, o, hA, hall⟩ := h.all (len_pos hk)
  obtain ⟨cs, ⟨vr, rfl, hr⟩, hx⟩ := hall k d hk
  exact ⟨b, o, vr, hA, hr, fun j u hj => by have h := hx j u hj; rw [← Nat.add_assoc] at h; exact h⟩
end Go.Proofs.YtkegnmclhkpbkaaGreat

/- Plain: a graph of which the nodes are gone one by one. -/
namespace Go.Proofs.YtkegnmclhkpbkaaGreat

theorem nodsE_weak {p : Option Nod} {l : List Nod} (h : nodsE p l = 0) : nodsE none l = 0 := by
  cases l with
  | nil => rfl
  | cons n r =>
    obtain ⟨h1, h2, h3, _⟩ := nodsE_step h
    have e : nodsE none (n :: r) = if idB n.id = false then 1 else if nodE n = 0 then nodsE (some n) r else nodE n := rfl
    rw [e, if_neg (by simp [h1]), if_pos h2, h3]
theorem nodsE_drop : ∀ (k : Nat) {p : Option Nod} {l : List Nod}, nodsE p l = 0 → nodsE none (l.drop k) = 0
  | 0, _, _, h => nodsE_weak h
  | _ + 1, _, [], _ => rfl
  | k + 1, _, _ :: _, h => nodsE_drop k (nodsE_step h).2.2.1
theorem tiesE_filter (f : Tie → Bool) : ∀ {l : List Tie} {p q : Option Tie}, (∀ a, p = some a → q = some a ∨ ∃ b, q = some b ∧ tieO a b < 0) → (p = none → True) → tiesE q l = 0 → tiesE p (l.filter f) = 0
  | [], p, q, _, _, _ => by cases p <;> rfl
  | t :: r, p, q, hp, _, h => by
    obtain ⟨s1, s2, s3⟩ := tiesE_step h
    have hlt : ∀ a, p = some a → tieO a t < 0 := fun a ha => by
      rcases hp a ha with hq | ⟨b, hq, hab⟩
      · have := s3 a hq; unfold tieLt at this; exact of_decide_eq_true this
      · have := s3 b hq; unfold tieLt at this; exact tieO_trans hab (of_decide_eq_true this)
    rw [List.filter_cons]
    by_cases hf : f t = true
    · rw [if_pos hf]
      have e : tiesE p (t :: r.filter f) = if tieE t = 0 then (if (match p with | some q => decide (0 ≤ tieO q t) | none => false) then 7 else tiesE (some t) (r.filter f)) else tieE t := by cases p <;> rfl
      rw [e, if_pos s1]
      have ih := tiesE_filter f (l := r) (p := some t) (q := some t) (fun a ha => .inl ha) (fun _ => trivial) s2
      cases p with
      | none => simpa using ih
      | some a =>
        have h1 := hlt a rfl
        have h2 : decide (0 ≤ tieO a t) = false := decide_eq_false (by omega)
        show (if decide (0 ≤ tieO a t) = true then (7 : Int) else tiesE (some t) (r.filter f)) = 0
        rw [h2]; simpa using ih
    · rw [if_neg hf]
      exact tiesE_filter f (l := r) (p := p) (q := some t) (fun a ha => .inr ⟨t, rfl, hlt a ha⟩) (fun _ => trivial) s2
def cutG (g : Grf) (k : Nat) : Grf := ⟨g.nodes.drop k, g.ties.filter fun t => !((g.nodes.take k).any fun n => touch n.id t)⟩
theorem cut_zero (g : Grf) : cutG g 0 = g := by
  unfold cutG
  have : g.ties.filter (fun t => !((g.nodes.take 0).any fun n => touch n.id t)) = g.ties := List.filter_eq_self.2 (fun a _ => by simp)
  rw [this, List.drop_zero]
theorem cut_right {g : Grf} (h : grfE g = 0) (k : Nat) : grfE (cutG g k) = 0 := by
  obtain ⟨h1, h2⟩ := grf_parts h
  obtain ⟨l1, l2, _, _⟩ := grf_ok h
  have e1 : nodsE none (cutG g k).nodes = 0 := nodsE_drop k h1
  have e2 : tiesE none (cutG g k).ties = 0 := tiesE_filter _ (q := none) (fun a ha => by cases ha) (fun _ => trivial) h2
  unfold grfE
  have l3 : (cutG g k).nodes.length ≤ 60 := by unfold cutG; simp; omega
  have l4 : (cutG g k).ties.length ≤ 120 := Nat.le_trans (List.length_filter_le _ _) l2
  rw [if_neg (by omega), e1, if_pos rfl, e2]
theorem fpos_head {l : List Nod} {n : Nod} {r : List Nod} (h : l = n :: r) : fpos l n.id = 0 ∧ fhas l n.id = true := by
  subst h
  have h0 : nodC n.id n = 0 := by unfold nodC; exact cmpI_zero.2 rfl
  have h1 : fpos (n :: r) n.id = 0 := by
    unfold fpos lowI
    rw [List.findIdx_cons]
    simp [h0]
  refine ⟨h1, ?_⟩
  unfold fhas
  rw [h1]
  unfold eqAt
  simp [h0]
theorem cut_step {g : Grf} {k : Nat} {n : Nod} (hd : g.nodes[k]? = some n) : goneG (cutG g k) n.id = cutG g (k + 1) ∧ fhas (cutG g k).nodes n.id = true := by
  have hc : (cutG g k).nodes = n :: g.nodes.drop (k + 1) := drop_cons hd
  obtain ⟨h1, h2⟩ := fpos_head hc
  refine ⟨?_, h2⟩
  unfold goneG
  rw [h1, hc]
  unfold cutG
  simp only [List.take_zero, List.nil_append, List.drop_succ_cons, List.drop_zero, List.filter_filter]
  rw [take_snoc hd]
  congr 1
  apply List.filter_congr
  intro t _
  rw [List.any_append]
  simp only [List.any_cons, List.any_nil, Bool.or_false, Bool.not_or]
  exact Bool.and_comm _ _
theorem beq_swap (a b : Int) : (a == b) = (b == a) := by
  rcases Int.decEq a b with h | h
  · rw [beq_eq_false_iff_ne.2 h, beq_eq_false_iff_ne.2 (Ne.symm h)]
  · subst h; rfl
def looseN (g : Grf) : Nat := (g.ties.filter fun t => !(fhas g.nodes t.src) && !(fhas g.nodes t.dst)).length
theorem chain_lt2 {l : List Nod} (hc : chain nodLt l = true) : ∀ {i j : Nat} {a b : Nod}, i < j → l[i]? = some a → l[j]? = some b → a.id < b.id := by
  intro i j
  induction j with
  | zero => intro a b h; omega
  | succ j ih =>
    intro a b h ha hb
    have hj : j < l.length := by have := (List.getElem?_eq_some_iff.1 hb).1; omega
    have h1 := chain_iff.1 hc j l[j] b (List.getElem?_eq_getElem hj) hb
    simp only [nodLt, decide_eq_true_eq] at h1
    rcases Nat.lt_or_ge i j with h2 | h2
    · have := ih (b := l[j]) h2 ha (List.getElem?_eq_getElem hj); omega
    · obtain rfl : i = j := by omega
      have := ha.symm.trans (List.getElem?_eq_getElem hj)
      cases this
      exact h1
theorem fhas_any {l : List Nod} (hc : chain nodLt l = true) (id : Int) : fhas l id = l.any fun n => n.id == id := by
  cases hq : fhas l id with
  | true =>
    obtain ⟨n, hn⟩ := fhas_some' hq
    have h0 : nodC id n = 0 := by
      unfold fhas eqAt at hq
      rw [hn] at hq
      simpa using hq
    have := (cmpI_zero (a := n.id) (b := id)).1 h0
    exact (List.any_eq_true.2 ⟨n, List.mem_of_getElem? hn, by simp [this]⟩).symm
  | false =>
    symm
    rw [List.any_eq_false]
    intro n hn
    obtain ⟨i, hi⟩ := List.mem_iff_getElem?.1 hn
    simp only [beq_iff_eq]
    intro he
    have h0 : nodC id n = 0 := cmpI_zero.2 he
    rcases Nat.lt_trichotomy i (fpos l id) with h | h | h
    · have := low_lt (c := nodC id) h hi; omega
    · subst h
      unfold fhas eqAt at hq
      rw [hi] at hq
      simp [h0] at hq
    · have hlt : fpos l id < l.length := by have := (List.getElem?_eq_some_iff.1 hi).1; omega
      obtain ⟨m, hm⟩ : ∃ m, l[fpos l id]? = some m := ⟨_, List.getElem?_eq_getElem hlt⟩
      have h1 := low_ge (c := nodC id) hc (nodC_mono id) (Nat.le_refl _) hm
      have h2 : ¬ nodC id m = 0 := by
        unfold fhas eqAt at hq
        rw [hm] at hq
        simpa using hq
      have h3 := chain_lt2 hc h hm hi
      unfold nodC at h0 h1 h2
      have a1 := (cmpI_zero (a := n.id) (b := id)).1 h0
      have a2 := @cmpI_neg m.id id
      have a3 := @cmpI_zero m.id id
      have a4 : ¬ m.id < id := fun h => by have := a2.2 h; omega
      have a5 : ¬ m.id = id := fun h => h2 (a3.2 h)
      omega
theorem cut_all {g : Grf} (h : grfE g = 0) : (cutG g g.nodes.length).nodes = [] ∧ (cutG g g.nodes.length).ties.length = looseN g := by
  obtain ⟨_, _, hc, _⟩ := grf_ok h
  refine ⟨by unfold cutG; simp, ?_⟩
  unfold cutG looseN
  rw [List.take_length]
  congr 1
  apply List.filter_congr
  intro t _
  rw [fhas_any hc, fhas_any hc]
  unfold touch
  simp only [← Bool.not_or]
  congr 1
  induction g.nodes with
  | nil => rfl
  | cons n r ih =>
    simp only [List.any_cons, ih]
    have e1 : (t.src == n.id) = (n.id == t.src) := beq_swap _ _
    have e2 : (t.dst == n.id) = (n.id == t.dst) := beq_swap _ _
    rw [e1, e2]
    cases (n.id == t.src) <;> cases (n.id == t.dst) <;> simp
end Go.Proofs.YtkegnmclhkpbkaaGreat

/- Plain: an op on a right graph, if it is no fault, makes a right graph. No condition. -/
namespace Go.Proofs.YtkegnmclhkpbkaaGreat
open Go

theorem chain_pw {D : Type} {R : D → D → Bool} (tr : ∀ a b c, R a b = true → R b c = true → R a c = true) : ∀ {l : List D}, chain R l = true ↔ l.Pairwise fun a b => R a b = true
  | [] => by simp [chain]
  | [a] => by simp [chain]
  | a :: b :: r => by
    have ih := chain_pw tr (l := b :: r)
    rw [chain, Bool.and_eq_true, ih]
    constructor
    · rintro ⟨h1, h2⟩
      refine List.pairwise_cons.2 ⟨fun x hx => ?_, h2⟩
      rcases List.mem_cons.1 hx with rfl | hx
      · exact h1
      · exact tr a b x h1 ((List.pairwise_cons.1 h2).1 x hx)
    · intro h
      obtain ⟨h1, h2⟩ := List.pairwise_cons.1 h
      exact ⟨h1 b (by simp), h2⟩
theorem pw_insert {D : Type} {R : D → D → Prop} {l : List D} {i : Nat} {x : D} (h : l.Pairwise R) (h1 : ∀ d ∈ l.take i, R d x) (h2 : ∀ d ∈ l.drop i, R x d) : (l.take i ++ x :: l.drop i).Pairwise R := by
  rw [List.pairwise_append]
  refine ⟨h.sublist (List.take_sublist _ _), List.pairwise_cons.2 ⟨h2, h.sublist (List.drop_sublist _ _)⟩, fun a ha b hb => ?_⟩
  rcases List.mem_cons.1 hb with rfl | hb
  · exact h1 a ha
  · rw [← List.take_append_drop i l, List.pairwise_append] at h
    exact h.2.2 a ha b hb
theorem pw_delete {D : Type} {R : D → D → Prop} {l : List D} (h : l.Pairwise R) (i : Nat) : (l.take i ++ l.drop (i + 1)).Pairwise R := by
  rw [← List.eraseIdx_eq_take_drop_succ]
  exact h.sublist (List.eraseIdx_sublist _ _)
theorem mem_delete {D : Type} {l : List D} {i : Nat} {x : D} (h : x ∈ l.take i ++ l.drop (i + 1)) : x ∈ l := by
  rcases List.mem_append.1 h with h | h
  · exact List.mem_of_mem_take h
  · exact List.mem_of_mem_drop h
theorem len_delete {D : Type} (l : List D) (i : Nat) : (l.take i ++ l.drop (i + 1)).length ≤ l.length := by simp; omega
theorem mem_insert {D : Type} {l : List D} {i : Nat} {x y : D} (h : y ∈ l.take i ++ x :: l.drop i) : y = x ∨ y ∈ l := by
  rcases List.mem_append.1 h with h | h
  · exact .inr (List.mem_of_mem_take h)
  · rcases List.mem_cons.1 h with h | h
    · exact .inl h
    · exact .inr (List.mem_of_mem_drop h)
/-- What stands ahead of a place in a row, and behind it. -/
theorem low_parts {D : Type} {R : D → D → Bool} {c : D → Int} {l : List D} (hc : chain R l = true) (mono : ∀ a b, R a b = true → 0 ≤ c a → 0 ≤ c b) (hno : eqAt c l (lowI c l) = false)
    (hz : ∀ a b, R a b = true → c b = 0 → c a < 0) : (∀ d ∈ l.take (lowI c l), c d < 0) ∧ ∀ d ∈ l.drop (lowI c l), 0 < c d := by
  constructor
  · intro d hd
    obtain ⟨i, hi⟩ := List.mem_iff_getElem?.1 hd
    rw [List.getElem?_take] at hi
    split at hi
    · rename_i h; exact low_lt h hi
    · cases hi
  · intro d hd
    obtain ⟨i, hi⟩ := List.mem_iff_getElem?.1 hd
    rw [List.getElem?_drop] at hi
    have h0 := low_ge (c := c) hc mono (by omega) hi
    by_cases h1 : 0 < c d
    · exact h1
    · have hd0 : c d = 0 := by omega
      rcases Nat.eq_zero_or_pos i with rfl | hp
      · unfold eqAt at hno
        rw [Nat.add_zero] at hi
        rw [hi] at hno
        simp [hd0] at hno
      · have hil := (List.getElem?_eq_some_iff.1 hi).1
        have hm : l[lowI c l]? = some (l[lowI c l]'(by omega)) := List.getElem?_eq_getElem _
        have h2 := low_ge (c := c) hc mono (Nat.le_refl _) hm
        have h3 : 0 < c (l[lowI c l]'(by omega)) := by
          unfold eqAt at hno
          rw [hm] at hno
          have : ¬ c (l[lowI c l]'(by omega)) = 0 := by simpa using hno
          omega
        have key : ∀ (k : Nat) e, l[lowI c l + k]? = some e → 0 < c e := by
          intro k
          induction k with
          | zero => intro e he; rw [Nat.add_zero, hm] at he; injection he with he; subst he; exact h3
          | succ k ih =>
            intro e he
            have hl := (List.getElem?_eq_some_iff.1 he).1
            have hp' : l[lowI c l + k]? = some (l[lowI c l + k]'(by omega)) := List.getElem?_eq_getElem _
            have h4 := ih _ hp'
            have h5 := chain_iff.1 hc (lowI c l + k) _ e hp' (by rw [← he]; rfl)
            have h6 := mono _ _ h5 (by omega)
            by_cases h7 : c e = 0
            · have := hz _ _ h5 h7; omega
            · omega
        exact key i d hi
theorem cmpI_pos {a b : Int} : 0 < cmpI a b ↔ b < a := by unfold cmpI; split <;> (try split) <;> omega
theorem nodLt_tr : ∀ a b c, nodLt a b = true → nodLt b c = true → nodLt a c = true := by
  intro a b c h k
  unfold nodLt at *
  simp only [decide_eq_true_eq] at *
  omega
theorem tieLt_tr : ∀ a b c, tieLt a b = true → tieLt b c = true → tieLt a c = true := by
  intro a b c h k
  unfold tieLt at *
  simp only [decide_eq_true_eq] at *
  exact tieO_trans h k
theorem prpLt_iff {a b : Prp} : prpLt a b = true ↔ cmpS a.name b.name < 0 := by
  unfold prpLt; rw [ltS_cmp]; simp
theorem prpLt_tr : ∀ a b c, prpLt a b = true → prpLt b c = true → prpLt a c = true := by
  intro a b c h k
  rw [prpLt_iff] at *
  exact cmpS_trans h k
theorem tieO_pos {a b : Tie} (h : 0 < tieO a b) : tieO b a < 0 := by
  rw [tieO_neg]
  have h0 := @cmpS_zero a.bond b.bond
  have ha := cmpS_anti a.bond b.bond
  have h1 := @cmpI_pos a.src b.src
  have h2 := @cmpI_zero a.src b.src
  have h3 := @cmpI_pos a.dst b.dst
  unfold tieO orI at h
  by_cases e1 : cmpS a.bond b.bond = 0
  · rw [if_pos e1] at h
    unfold orI at h
    by_cases e2 : cmpI a.src b.src = 0
    · rw [if_pos e2] at h
      unfold orI orI at h
      by_cases e3 : cmpI a.dst b.dst = 0
      · rw [if_pos e3] at h; omega
      · rw [if_neg e3] at h
        exact .inr ⟨(h0.1 e1).symm, .inr ⟨(h2.1 e2).symm, h3.1 h⟩⟩
    · rw [if_neg e2] at h
      exact .inr ⟨(h0.1 e1).symm, .inl (h1.1 h)⟩
  · rw [if_neg e1] at h
    exact .inl (by omega)
/-! ### What makes a graph right -/
def clashN (p : Option Nod) (n : Nod) : Bool := match p with | some q => decide (n.id ≤ q.id) | none => false
def clashT (p : Option Tie) (t : Tie) : Bool := match p with | some q => decide (0 ≤ tieO q t) | none => false
theorem nodsE_mk : ∀ {l : List Nod} {p : Option Nod}, (∀ n ∈ l, idB n.id = true ∧ nodE n = 0) → chain nodLt l = true → (∀ a b, p = some a → l.head? = some b → nodLt a b = true) → nodsE p l = 0
  | [], p, _, _, _ => by cases p <;> rfl
  | n :: r, p, h, hc, hp => by
    obtain ⟨h1, h2⟩ := h n (by simp)
    have e : nodsE p (n :: r) = if idB n.id = false then 1 else if clashN p n then 7 else if nodE n = 0 then nodsE (some n) r else nodE n := by cases p <;> rfl
    have hno : clashN p n = false := by
      clear e
      cases p with
      | none => rfl
      | some q =>
        have := hp q n rfl rfl
        unfold nodLt at this
        have := of_decide_eq_true this
        exact decide_eq_false (by omega)
    rw [e, if_neg (by simp [h1]), hno, if_neg (by simp), if_pos h2]
    refine nodsE_mk (fun m hm => h m (by simp [hm])) ?_ (fun a b ha hb => ?_)
    · cases r with
      | nil => rfl
      | cons b r => simp only [chain, Bool.and_eq_true] at hc; exact hc.2
    · cases ha
      cases r with
      | nil => cases hb
      | cons b' r => simp at hb; subst hb; simp only [chain, Bool.and_eq_true] at hc; exact hc.1
theorem tiesE_mk : ∀ {l : List Tie} {p : Option Tie}, (∀ t ∈ l, tieE t = 0) → chain tieLt l = true → (∀ a b, p = some a → l.head? = some b → tieLt a b = true) → tiesE p l = 0
  | [], p, _, _, _ => by cases p <;> rfl
  | t :: r, p, h, hc, hp => by
    have h1 := h t (by simp)
    have e : tiesE p (t :: r) = if tieE t = 0 then (if clashT p t then 7 else tiesE (some t) r) else tieE t := by cases p <;> rfl
    have hno : clashT p t = false := by
      clear e
      cases p with
      | none => rfl
      | some q =>
        have := hp q t rfl rfl
        unfold tieLt at this
        have := of_decide_eq_true this
        exact decide_eq_false (by omega)
    rw [e, if_pos h1, hno, if_neg (by simp)]
    refine tiesE_mk (fun m hm => h m (by simp [hm])) ?_ (fun a b ha hb => ?_)
    · cases r with
      | nil => rfl
      | cons b r => simp only [chain, Bool.and_eq_true] at hc; exact hc.2
    · cases ha
      cases r with
      | nil => cases hb
      | cons b' r => simp at hb; subst hb; simp only [chain, Bool.and_eq_true] at hc; exact hc.1
theorem grf_mk {g : Grf} (h1 : g.nodes.length ≤ 60) (h2 : g.ties.length ≤ 120) (h3 : chain nodLt g.nodes = true) (h4 : ∀ n ∈ g.nodes, idB n.id = true ∧ nodE n = 0) (h5 : chain tieLt g.ties = true) (h6 : ∀ t ∈ g.ties, tieE t = 0) : grfE g = 0 := by
  unfold grfE
  rw [if_neg (by omega), nodsE_mk (p := none) h4 h3 (fun a b ha => by cases ha), if_pos rfl, tiesE_mk (p := none) h6 h5 (fun a b ha => by cases ha)]
theorem firstE_mk {D : Type} {f : D → Int} : ∀ {l : List D}, (∀ d ∈ l, f d = 0) → firstE f l = 0
  | [], _ => rfl
  | d :: r, h => by rw [firstE, if_pos (h d (by simp))]; exact firstE_mk fun x hx => h x (by simp [hx])
theorem rec_mk {r : List Prp} (h1 : r.length ≤ 8) (h2 : ∀ p ∈ r, prpE p = 0) (h3 : chain prpLt r = true) : recE r = 0 := by
  have h3 : chain (fun a b : Prp => ltS a.name b.name) r = true := h3
  unfold recE
  rw [if_neg (by omega), if_pos (firstE_mk h2), h3]; rfl
theorem nodE_put {n : Nod} {r : List Prp} (h : nodE n = 0) (hr : recE r = 0) : nodE ⟨n.id, n.kind, r⟩ = 0 := by
  unfold nodE at h ⊢
  by_cases h1 : idB n.id = false
  · rw [if_pos h1] at h; cases h
  · rw [if_neg h1] at h ⊢
    by_cases h2 : nameE n.kind = 0
    · rw [if_pos h2]; exact hr
    · rw [if_neg h2] at h; exact absurd h h2
/-! ### Records -/
theorem prp_hz (nm : ByteArray) : ∀ a b, prpLt a b = true → prpC nm b = 0 → prpC nm a < 0 := by
  intro a b h k
  rw [prpLt_iff] at h
  unfold prpC at *
  rw [← cmpS_zero.1 k]
  exact h
theorem set_right {r : List Prp} {p : Prp} (h : setE r p = 0) : recE (setR r p) = 0 := by
  have h0 := h
  unfold setE at h
  by_cases e1 : recE r = 0
  · rw [if_pos e1] at h
    by_cases e2 : prpE p = 0
    · rw [if_pos e2] at h
      obtain ⟨a1, a2, a3⟩ := rec_ok e1
      unfold setR
      rw [if_pos h0]
      unfold putP
      cases hh : rhas r p.name with
      | true =>
        rw [if_pos rfl]
        obtain ⟨q, hq⟩ := rhas_some hh
        have hqn : q.name = p.name := by
          unfold rhas eqAt at hh
          rw [hq] at hh
          have : prpC p.name q = 0 := by simpa using hh
          exact cmpS_zero.1 this
        refine rec_mk (by simpa using a1) (fun x hx => ?_) ?_
        · rcases List.mem_or_eq_of_mem_set hx with hx | rfl
          · exact a2 x hx
          · exact e2
        · rw [chain_iff]
          intro i a b ha hb
          have key : ∀ (j : Nat) (c : Prp), (r.set (rpos r p.name) p)[j]? = some c → ∃ c', r[j]? = some c' ∧ c'.name = c.name := by
            intro j c hc
            rw [List.getElem?_set] at hc
            split at hc
            · rename_i hj
              subst hj
              split at hc
              · injection hc with hc; subst hc; exact ⟨q, hq, hqn⟩
              · cases hc
            · exact ⟨c, hc, rfl⟩
          obtain ⟨a', ha', na⟩ := key i a ha
          obtain ⟨b', hb', nb⟩ := key (i + 1) b hb
          have := chain_iff.1 a3 i a' b' ha' hb'
          rw [prpLt_iff] at this ⊢
          rw [← na, ← nb]; exact this
      | false =>
        rw [hh] at h
        simp only [Bool.false_eq_true, if_false] at h
        have hl : ¬ 8 ≤ r.length := fun hl => by rw [if_pos hl] at h; cases h
        rw [if_neg (by simp)]
        obtain ⟨b1, b2⟩ := low_parts (c := prpC p.name) a3 (prpC_mono p.name) hh (prp_hz p.name)
        refine rec_mk (by simp; have := lowI_le (prpC p.name) r; unfold rpos; omega) (fun x hx => ?_) ((chain_pw prpLt_tr).2 (pw_insert ((chain_pw prpLt_tr).1 a3) (fun d hd => ?_) (fun d hd => ?_)))
        · rcases mem_insert hx with rfl | hx
          · exact e2
          · exact a2 x hx
        · rw [prpLt_iff]; exact b1 d hd
        · rw [prpLt_iff, cmpS_anti]; have := b2 d hd; unfold prpC at this; omega
    · rw [if_neg e2] at h; exact absurd h e2
  · rw [if_neg e1] at h; exact absurd h e1
theorem unset_right {r : List Prp} {nm : ByteArray} (h : unsetE r nm = 0) : recE (unsetR r nm) = 0 := by
  have h0 := h
  unfold unsetE at h
  by_cases e1 : recE r = 0
  · obtain ⟨a1, a2, a3⟩ := rec_ok e1
    unfold unsetR
    rw [if_pos h0]
    exact rec_mk (Nat.le_trans (len_delete _ _) a1) (fun x hx => a2 x (mem_delete hx)) ((chain_pw prpLt_tr).2 (pw_delete ((chain_pw prpLt_tr).1 a3) _))
  · rw [if_neg e1] at h; exact absurd h e1
theorem put_right {g : Grf} (h : grfE g = 0) {id : Int} {r : List Prp} (hh : fhas g.nodes id = true) (hr : recE r = 0) : grfE ⟨putRec g.nodes (fpos g.nodes id) r, g.ties⟩ = 0 := by
  obtain ⟨h1, h2, h3, h4⟩ := grf_ok h
  obtain ⟨h5, h6⟩ := grf_ties h
  obtain ⟨n, hn⟩ := fhas_some' hh
  unfold putRec
  rw [hn]
  refine grf_mk (by simpa using h1) h2 ?_ (fun m hm => ?_) h5 h6
  · rw [chain_iff]
    intro i a b ha hb
    have key : ∀ (j : Nat) (c : Nod), (g.nodes.set (fpos g.nodes id) ⟨n.id, n.kind, r⟩)[j]? = some c → ∃ c', g.nodes[j]? = some c' ∧ c'.id = c.id := by
      intro j c hc
      rw [List.getElem?_set] at hc
      split at hc
      · rename_i hj
        subst hj
        split at hc
        · injection hc with hc; subst hc; exact ⟨n, hn, rfl⟩
        · cases hc
      · exact ⟨c, hc, rfl⟩
    obtain ⟨a', ha', na⟩ := key i a ha
    obtain ⟨b', hb', nb⟩ := key (i + 1) b hb
    have := chain_iff.1 h3 i a' b' ha' hb'
    unfold nodLt at this ⊢
    rw [← na, ← nb]; exact this
  · rcases List.mem_or_eq_of_mem_set hm with hm | rfl
    · exact h4 m hm
    · obtain ⟨k1, k2⟩ := h4 n (List.mem_of_getElem? hn)
      exact ⟨k1, nodE_put k2 hr⟩
theorem op_right {g : Grf} {o : Opr} (h : grfE g = 0) (ho : opE g o = 0) : grfE (opG g o) = 0 := by
  obtain ⟨h1, h2, h3, h4⟩ := grf_ok h
  obtain ⟨h5, h6⟩ := grf_ties h
  unfold opE at ho
  unfold opG
  by_cases w1 : o.what = 1
  · rw [if_pos w1] at ho ⊢
    unfold bornE at ho
    by_cases e1 : nodE o.node = 0
    · rw [if_pos e1] at ho
      cases hh : fhas g.nodes o.node.id with
      | true => rw [hh] at ho; simp at ho
      | false =>
        rw [hh] at ho
        simp only [Bool.false_eq_true, if_false] at ho
        have hl : ¬ 60 ≤ g.nodes.length := fun hl => by rw [if_pos hl] at ho; cases ho
        obtain ⟨b1, b2⟩ := low_parts (c := nodC o.node.id) h3 (nodC_mono o.node.id) hh (fun a b hab hb => by
          unfold nodLt at hab; unfold nodC at *
          have := of_decide_eq_true hab
          exact cmpI_neg.2 (by rw [← cmpI_zero.1 hb]; exact this))
        have hid : idB o.node.id = true := by
          unfold nodE at e1
          cases hb : idB o.node.id with
          | true => rfl
          | false => rw [hb] at e1; simp at e1
        unfold bornG
        refine grf_mk (by simp; have := lowI_le (nodC o.node.id) g.nodes; unfold fpos; omega) h2 ((chain_pw nodLt_tr).2 (pw_insert ((chain_pw nodLt_tr).1 h3) (fun d hd => ?_) (fun d hd => ?_))) (fun m hm => ?_) h5 h6
        · unfold nodLt; exact decide_eq_true (cmpI_neg.1 (b1 d hd))
        · unfold nodLt; exact decide_eq_true (cmpI_pos.1 (b2 d hd))
        · rcases mem_insert hm with rfl | hm
          · exact ⟨hid, e1⟩
          · exact h4 m hm
    · rw [if_neg e1] at ho; exact absurd ho e1
  rw [if_neg w1] at ho ⊢
  by_cases w2 : o.what = 2
  · rw [if_pos w2]
    unfold goneG
    exact grf_mk (Nat.le_trans (len_delete _ _) h1) (Nat.le_trans (List.length_filter_le _ _) h2) ((chain_pw nodLt_tr).2 (pw_delete ((chain_pw nodLt_tr).1 h3) _)) (fun m hm => h4 m (mem_delete hm))
      ((chain_pw tieLt_tr).2 (((chain_pw tieLt_tr).1 h5).filter _)) (fun t ht => h6 t (List.mem_filter.1 ht).1)
  rw [if_neg w2] at ho ⊢
  by_cases w3 : o.what = 3
  · rw [if_pos w3] at ho ⊢
    cases hh : fhas g.nodes o.node.id with
    | false => rw [hh] at ho; simp at ho
    | true =>
      rw [hh, if_pos rfl] at ho
      exact put_right h hh (set_right ho)
  rw [if_neg w3] at ho ⊢
  by_cases w4 : o.what = 4
  · rw [if_pos w4] at ho ⊢
    cases hh : fhas g.nodes o.node.id with
    | false => rw [hh] at ho; simp at ho
    | true =>
      rw [hh, if_pos rfl] at ho
      exact put_right h hh (unset_right ho)
  rw [if_neg w4] at ho ⊢
  by_cases w5 : o.what = 5
  · rw [if_pos w5] at ho ⊢
    by_cases e1 : tieE o.tie = 0
    · rw [if_pos e1] at ho
      cases hh : thas g.ties o.tie with
      | true => rw [hh] at ho; simp at ho
      | false =>
        rw [hh] at ho
        simp only [Bool.false_eq_true, if_false] at ho
        have hl : ¬ 120 ≤ g.ties.length := fun hl => by rw [if_pos hl] at ho; cases ho
        obtain ⟨b1, b2⟩ := low_parts (c := tieC o.tie) h5 (tieC_mono o.tie) hh (fun a b hab hb => by
          unfold tieLt at hab; unfold tieC at *
          rw [← tieO_zero.1 hb]; exact of_decide_eq_true hab)
        refine grf_mk h1 (by simp; have := lowI_le (tieC o.tie) g.ties; unfold tpos; omega) h3 h4 ((chain_pw tieLt_tr).2 (pw_insert ((chain_pw tieLt_tr).1 h5) (fun d hd => ?_) (fun d hd => ?_))) (fun t ht => ?_)
        · unfold tieLt; exact decide_eq_true (b1 d hd)
        · unfold tieLt; exact decide_eq_true (tieO_pos (b2 d hd))
        · rcases mem_insert ht with rfl | ht
          · exact e1
          · exact h6 t ht
    · rw [if_neg e1] at ho; exact absurd ho e1
  rw [if_neg w5] at ho ⊢
  by_cases w6 : o.what = 6
  · rw [if_pos w6]
    exact grf_mk h1 (Nat.le_trans (len_delete _ _) h2) h3 h4 ((chain_pw tieLt_tr).2 (pw_delete ((chain_pw tieLt_tr).1 h5) _)) (fun t ht => h6 t (mem_delete ht))
  · rw [if_neg w6] at ho; cases ho
/-- Ops one behind the other: the graph, the first that is wrong, and how. -/
def allG (g : Grf) : List Opr → Grf
  | [] => g
  | o :: r => if opE g o = 0 then allG (opG g o) r else ⟨[], []⟩
def allE (g : Grf) : List Opr → Int
  | [] => 0
  | o :: r => if opE g o = 0 then allE (opG g o) r else opE g o
theorem all_right : ∀ {l : List Opr} {g : Grf}, grfE g = 0 → allE g l = 0 → grfE (allG g l) = 0
  | [], _, h, _ => h
  | o :: r, g, h, he => by
    unfold allE at he
    unfold allG
    by_cases h0 : opE g o = 0
    · rw [if_pos h0] at he ⊢
      exact all_right (op_right h h0) he
    · rw [if_neg h0] at he; exact absurd he h0
end Go.Proofs.YtkegnmclhkpbkaaGreat
