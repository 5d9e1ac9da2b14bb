/- Parts: OpenA, OpenB, OpenC, OpenF, Chk0, Mi, Chk1, Chk2, Chk3, Mk, GNode, EndP, SortI, EndA, ChkP, ChkQ, Srow, Chk4, Chk5, Chk6, Chk7, Simp, Many, GdP, DlAll. -/
import Derived.Test.YtngbbefpphinjaaGreatDoorMg01
import Derived.Test.YtngbbefpphinjaaGreatDoorRows
import Derived.Deep.Slices
import Derived.Lib.SmallJoins
import Derived.JoinedCond
import Derived.Carry
import Derived.ChangeMaps5
import Derived.Test.YtngbbefpphinjaaGreatDoorMg12
import Derived.Test.YtngbbefpphinjaaGreatDoorMg04
import Derived.Test.YtngbbefpphinjaaGreatDoorMg05
import Derived.Test.YtngbbefpphinjaaGreatDoorMg06
import Derived.Deep.DeepCutAuto
import Derived.Test.YtngbbefpphinjaaGreatDoorMg03
import Derived.Test.YtngbbefpphinjaaGreatDoorMg02
import Derived.Test.YtngbbefpphinjaaGreatDoorMg08
import Derived.Deep.RegionHeld3
import Derived.MapKept
import Derived.Shelf.SortM.Plain
import Derived.Shelf.SortM.SortNone
import Derived.Ground.SlgmProg
import Derived.Laws.Rows
import Derived.Laws.CopyRow
import Derived.Test.YtngbbefpphinjaaGreatDoorMg09
/- Plain: what comes in, read as data of bulk at most 1048576, lies in memory as the contracts want it. -/
namespace Go.Proofs.YtngbbefpphinjaaGreatDoor
open Go Go.RowKit Go.Deep Go.ChangeShapes Go.WideShapes Go.Joins

/-! ### Bulk -/
section
variable {H : Type}
theorem bulk_part {d : DataW H} {l : List (DataW H)} (h : d ∈ l) : Rows.uptoBulk d ≤ Rows.uptoBulkAll l := by
  induction l with
  | nil => cases h
  | cons x r ih =>
    simp only [Rows.uptoBulkAll]
    cases List.mem_cons.1 h with
    | inl e => subst e; omega
    | inr e => have := ih e; omega
theorem bulk_small {ds : List (DataW H)} (hk : Rows.uptoSmall H ds = true) {d : DataW H} (h : d ∈ ds) : Rows.uptoBulk d ≤ 1048576 := by
  have h1 : Rows.uptoBulkAll ds ≤ 1048576 := of_decide_eq_true hk
  have := bulk_part h
  omega
end

/-- Data of type t lie as L says. -/
def Opens {D : Type} (P : Program) (L : Lay D) (t : TypeId) : Prop :=
  ∀ (H : Type) (enc : TypeId × Value → H) (w : World) (base : Nat) (spare : Nat → Bool) (held : Bool) (fuel : Nat) (cs : List Value) (x : DataW H × List MemPlace),
    DataW.trod enc P w base spare held fuel t cs = some x → Rows.uptoBulk x.1 ≤ 1048576 → ∃ d, L.cells w d cs

theorem add_off (b o n : Nat) : (⟨b, o, none⟩ : Addr).add n = ⟨b, o + n, none⟩ := by
  unfold Addr.add
  split
  · rename_i h; subst h; rfl
  · rfl

theorem rows_of {D : Type} {L : Lay D} {w : World} {a : Addr} {len : Nat} (h : ∀ i, i < len → ∃ d cs, L.cells w d cs ∧ ∀ j u, cs[j]? = some u → w.cell? ((a.add (i * L.sz)).add j) = some u) :
    ∀ k, k ≤ len → ∃ l : List D, l.length = k ∧ ∀ i d, l[i]? = some d → ∃ cs, L.cells w d cs ∧ ∀ j u, cs[j]? = some u → w.cell? ((a.add (i * L.sz)).add j) = some u
  | 0, _ => ⟨[], rfl, fun i d hi => by simp at hi⟩
  | k + 1, hk => by
    obtain ⟨l, hl, hall⟩ := rows_of h k (by omega)
    obtain ⟨d, cs, hc, hcell⟩ := h k (by omega)
    refine ⟨l ++ [d], by simp [hl], fun i x hi => ?_⟩
    by_cases hik : i < l.length
    · rw [List.getElem?_append_left hik] at hi
      exact hall i x hi
    · rw [List.getElem?_append_right (by omega)] at hi
      have e1 : i - l.length = 0 := by
        have := (List.getElem?_eq_some_iff.1 hi).1
        simp at this; omega
      rw [e1] at hi
      simp at hi
      subst hi
      obtain rfl : i = k := by omega
      exact ⟨cs, hc, hcell⟩

theorem Opens.slice {D : Type} {P : Program} {L : Lay D} {t e : TypeId} (ht : P.underlying t = some (.slice e)) (hC : P.cellsOf e = L.sz) (hs : 0 < L.sz) (h : Opens P L e) : Opens P (slL L) t := by
  intro H enc w base spare held fuel cs x hx hb
  rcases open_slice ht hx with ⟨rfl, rfl⟩ | ⟨a, len, cap, m, n, D', Pl, rfl, hbb, hl, hm, hmm, rfl, hi⟩
  · exact ⟨[], _, rfl, Sl.nil 0 (by unfold maxLen; omega) none⟩
  · have hm' : len ≤ m := by rw [hmm]; split <;> omega
    have hbA : Rows.uptoBulkAll ((List.range len).map D') ≤ 1048576 := by
      simp only [Rows.uptoBulk] at hb
      omega
    have each : ∀ i, i < len → ∃ d cs, L.cells w d cs ∧ ∀ j u, cs[j]? = some u → w.cell? ((a.add (i * L.sz)).add j) = some u := fun i hil => by
      obtain ⟨cs', hc, ht'⟩ := hi i (by omega)
      rw [hC] at hc
      obtain ⟨_, hcl, hat⟩ := World.cells?_some hc
      have hbi : Rows.uptoBulk (D' i) ≤ 1048576 := by
        have := bulk_part (d := D' i) (l := (List.range len).map D') (List.mem_map.2 ⟨i, List.mem_range.2 hil, rfl⟩)
        omega
      obtain ⟨d, hd⟩ := h H enc w base spare held n cs' _ ht' hbi
      refine ⟨d, cs', hd, fun j u hj => ?_⟩
      have hjl : j < L.sz := by have := (List.getElem?_eq_some_iff.1 hj).1; omega
      rw [hat j hjl, hj]
    by_cases h0 : len = 0
    · subst h0
      exact ⟨[], _, rfl, Sl.nil cap hm (some a)⟩
    · obtain ⟨b, o, spot⟩ := a
      have hspot : spot = none := by
        obtain ⟨d, cs', hd, hcell⟩ := each 0 (by omega)
        have hl0 := L.len hd
        have h1 := hcell 0 _ (List.getElem?_eq_getElem (by omega))
        simpa [Addr.add] using World.cell?_spot h1
      subst hspot
      obtain ⟨l, hll, hall⟩ := rows_of each len (Nat.le_refl _)
      subst hll
      refine ⟨l, _, rfl, _, cap, rfl, hl, hm, fun i d hid => ?_⟩
      obtain ⟨cs', hd, hcell⟩ := hall i d hid
      refine ⟨b, o, cs', rfl, hd, fun j u hj => ?_⟩
      have := hcell j u hj
      rw [add_off, add_off, Nat.add_assoc] at this
      exact this

theorem field_at {H : Type} {enc : TypeId × Value → H} {P : Program} {w : World} {base : Nat} {spare : Nat → Bool} {held : Bool} {t : TypeId} {fs : Array Field} {fuel : Nat} {cs : List Value} {x : DataW H × List MemPlace}
    (ht : P.underlying t = some (.struct fs)) (h : DataW.trod enc P w base spare held fuel t cs = some x) (hb : Rows.uptoBulk x.1 ≤ 1048576) :
    cs.length = P.cellsOf t ∧ ∀ {D : Type} {L : Lay D} (i : Nat) (f : Field) (k : Nat), fs[i]? = some f → P.cellsOf f.type = k → Opens P L f.type → ∃ d, L.cells w d ((cs.drop f.offset).take k) := by
  obtain ⟨xs, n, _, rfl, hl, hxl, hf⟩ := DataW.trod_struct ht h
  refine ⟨hl, fun i f k hi hk ho => ?_⟩
  have h1 := hf i f hi
  have hil : i < xs.length := by have := (Array.getElem?_eq_some_iff.1 hi).1; omega
  obtain ⟨y, hy⟩ : ∃ y, xs[i]? = some y := ⟨_, List.getElem?_eq_getElem hil⟩
  rw [hy, hk] at h1
  refine ho H enc w base spare held n _ y h1 ?_
  have := bulk_part (d := y.1) (l := xs.map (·.1)) (List.mem_map.2 ⟨y, List.mem_of_getElem? hy, rfl⟩)
  simp only [Rows.uptoBulk] at hb
  omega

theorem opens_int {P : Program} {t : TypeId} (ht : P.underlying t = some (.int .i64)) : Opens P intL t := by
  intro H enc w base spare held fuel cs x hx hb
  obtain ⟨n, rfl, rfl, hw⟩ := DataW.trod_int ht hx
  refine ⟨n, rfl, ?_⟩
  have e1 : IntKind.i64.min = -9223372036854775808 := rfl
  have e2 : IntKind.i64.max = 9223372036854775807 := rfl
  simp [Lit.wf, e1, e2] at hw
  exact hw
theorem opens_str {P : Program} {t : TypeId} (ht : P.underlying t = some .string) : Opens P strL t := by
  intro H enc w base spare held fuel cs x hx hb
  obtain ⟨s, rfl, rfl, hw⟩ := DataW.trod_string ht hx
  refine ⟨s, rfl, ?_⟩
  simp only [Rows.uptoBulk, Array.length_toList] at hb
  show s.data.size ≤ 1048576
  omega
end Go.Proofs.YtngbbefpphinjaaGreatDoor

/- Plain: the program's structs, read as data, lie as the layouts say (this program's numbers of types). -/
namespace Go.Proofs.YtngbbefpphinjaaGreatDoor
open Go Go.RowKit Go.Deep Go.ChangeShapes Go.WideShapes

theorem oInt : Opens Tryz.prog intL 3 := opens_int Tryz.underlying3
theorem oStr : Opens Tryz.prog strL 9 := opens_str Tryz.underlying9
theorem o_val : Opens Tryz.prog valL 31 := by
  intro H enc w base spare held fuel cs x hx hb
  obtain ⟨hl, hf⟩ := field_at Tryz.underlying31 hx hb
  rw [show Tryz.prog.cellsOf 31 = 3 from by kernel_rfl] at hl
  match cs, hl with
  | [c0, c1, c2], _ =>
    obtain ⟨a0, e0, h0⟩ := hf (L := intL) 0 _ 1 rfl (by kernel_rfl) oInt
    have e0 : [c0] = [.int .i64 a0] := e0
    injection e0 with e0 _
    subst e0
    obtain ⟨a1, e1, h1⟩ := hf (L := intL) 1 _ 1 rfl (by kernel_rfl) oInt
    have e1 : [c1] = [.int .i64 a1] := e1
    injection e1 with e1 _
    subst e1
    obtain ⟨a2, e2, h2⟩ := hf (L := strL) 2 _ 1 rfl (by kernel_rfl) oStr
    have e2 : [c2] = [.string a2] := e2
    injection e2 with e2 _
    subst e2
    exact ⟨⟨a0, a1, a2⟩, rfl, h0, h1, h2⟩
theorem o_prp : Opens Tryz.prog prpL 33 := by
  intro H enc w base spare held fuel cs x hx hb
  obtain ⟨hl, hf⟩ := field_at Tryz.underlying33 hx hb
  rw [show Tryz.prog.cellsOf 33 = 4 from by kernel_rfl] at hl
  match cs, hl with
  | [c0, c1, c2, c3], _ =>
    obtain ⟨a0, e0, h0⟩ := hf (L := strL) 0 _ 1 rfl (by kernel_rfl) oStr
    have e0 : [c0] = [.string a0] := e0
    injection e0 with e0 _
    subst e0
    obtain ⟨v, e1, h1⟩ := hf (L := valL) 1 _ 3 rfl (by kernel_rfl) o_val
    have e1 : [c1, c2, c3] = [.int .i64 v.ty, .int .i64 v.n, .string v.s] := e1
    injection e1 with e1 e2
    injection e2 with e2 e3
    injection e3 with e3 _
    subst e1; subst e2; subst e3
    exact ⟨⟨a0, v⟩, rfl, h0, h1⟩
theorem o_tie : Opens Tryz.prog tieL 35 := by
  intro H enc w base spare held fuel cs x hx hb
  obtain ⟨hl, hf⟩ := field_at Tryz.underlying35 hx hb
  rw [show Tryz.prog.cellsOf 35 = 3 from by kernel_rfl] at hl
  match cs, hl with
  | [c0, c1, c2], _ =>
    obtain ⟨a0, e0, h0⟩ := hf (L := strL) 0 _ 1 rfl (by kernel_rfl) oStr
    have e0 : [c0] = [.string a0] := e0
    injection e0 with e0 _
    subst e0
    obtain ⟨a1, e1, h1⟩ := hf (L := intL) 1 _ 1 rfl (by kernel_rfl) oInt
    have e1 : [c1] = [.int .i64 a1] := e1
    injection e1 with e1 _
    subst e1
    obtain ⟨a2, e2, h2⟩ := hf (L := intL) 2 _ 1 rfl (by kernel_rfl) oInt
    have e2 : [c2] = [.int .i64 a2] := e2
    injection e2 with e2 _
    subst e2
    exact ⟨⟨a0, a1, a2⟩, rfl, h0, h1, h2⟩
theorem o_rec : Opens Tryz.prog (slL prpL) 27 := Opens.slice Tryz.underlying27 (by kernel_rfl) (by decide) o_prp
theorem o_ties : Opens Tryz.prog (slL tieL) 23 := Opens.slice Tryz.underlying23 (by kernel_rfl) (by decide) o_tie
theorem o_nod : Opens Tryz.prog nodL 29 := by
  intro H enc w base spare held fuel cs x hx hb
  obtain ⟨hl, hf⟩ := field_at Tryz.underlying29 hx hb
  rw [show Tryz.prog.cellsOf 29 = 3 from by kernel_rfl] at hl
  match cs, hl with
  | [c0, c1, c2], _ =>
    obtain ⟨a0, e0, h0⟩ := hf (L := intL) 0 _ 1 rfl (by kernel_rfl) oInt
    have e0 : [c0] = [.int .i64 a0] := e0
    injection e0 with e0 _
    subst e0
    obtain ⟨a1, e1, h1⟩ := hf (L := strL) 1 _ 1 rfl (by kernel_rfl) oStr
    have e1 : [c1] = [.string a1] := e1
    injection e1 with e1 _
    subst e1
    obtain ⟨a2, v2, e2, h2⟩ := hf (L := slL prpL) 2 _ 1 rfl (by kernel_rfl) o_rec
    have e2 : [c2] = [v2] := e2
    injection e2 with e2 _
    subst e2
    exact ⟨⟨a0, a1, a2⟩, c2, rfl, h0, h1, h2⟩
theorem o_nods : Opens Tryz.prog (slL nodL) 22 := Opens.slice Tryz.underlying22 (by kernel_rfl) (by decide) o_nod
/-! ### Arguments -/
/-- A one-cell argument. -/
theorem arg_one {D : Type} {L : Lay D} {t : TypeId} {H : Type} {enc : TypeId × Value → H} {w : World} {base : Nat} {spare : Nat → Bool} {held : Bool} {v : Value} {d : DataW H} {p : List MemPlace}
    (ho : Opens Tryz.prog L t) (h : DataW.Trod enc Tryz.prog w base spare held t v d p) (hb : Rows.uptoBulk d ≤ 1048576) : ∃ x, L.cells w x v.cells.toList := by
  obtain ⟨fuel, hf⟩ := h
  exact ho H enc w base spare held fuel _ _ hf hb
set_option maxRecDepth 100000 in
/-- A struct of two slices. -/
theorem arg_two {D E : Type} {L : Lay D} {M : Lay E} {t : TypeId} {f0 f1 : Field} {H : Type} {enc : TypeId × Value → H} {w : World} {base b0 : Nat} {r : Reach} {spare : Nat → Bool} {held : Bool} {v : Value} {d : DataW H} {p : List MemPlace}
    (hs : Tryz.prog.underlying t = some (.struct #[f0, f1])) (hone : oneCellFields Tryz.prog #[f0, f1] = true) (hC : Tryz.prog.cellsOf t = 2) (h0 : Opens Tryz.prog (slL L) f0.type) (h1 : Opens Tryz.prog (slL M) f1.type)
    (hv : Value.okWide Tryz.prog w r b0 t v) (h : DataW.Trod enc Tryz.prog w base spare held t v d p) (hb : Rows.uptoBulk d ≤ 1048576) : ∃ v0 v1 l m, v = .agg #[v0, v1] ∧ Sl L w v0 l ∧ Sl M w v1 m := by
  obtain ⟨v0, v1, y0, y1, n, rfl, rfl, rfl, g0, g1⟩ := Joins.open_agg2 hs hone hC hv h
  simp only [Rows.uptoBulk, Rows.uptoBulkAll] at hb
  obtain ⟨l, v0', e0, k0⟩ := h0 H enc w base spare held n _ _ g0 (by omega)
  obtain ⟨m, v1', e1, k1⟩ := h1 H enc w base spare held n _ _ g1 (by omega)
  injection e0 with e0 _
  injection e1 with e1 _
  subst e0; subst e1
  exact ⟨v0, v1, l, m, rfl, k0, k1⟩
set_option maxRecDepth 100000 in
theorem arg_graph {H : Type} {enc : TypeId × Value → H} {w : World} {base b0 : Nat} {r : Reach} {spare : Nat → Bool} {held : Bool} {v : Value} {d : DataW H} {p : List MemPlace}
    (hv : Value.okWide Tryz.prog w r b0 25 v) (h : DataW.Trod enc Tryz.prog w base spare held 25 v d p) (hb : Rows.uptoBulk d ≤ 1048576) : ∃ v0 v1 g, v = .agg #[v0, v1] ∧ GrfR w v0 v1 g := by
  obtain ⟨v0, v1, l, m, rfl, h0, h1⟩ := arg_two Tryz.underlying25 (by kernel_rfl) (by kernel_rfl) o_nods o_ties hv h hb
  exact ⟨v0, v1, ⟨l, m⟩, rfl, h0, h1⟩
end Go.Proofs.YtngbbefpphinjaaGreatDoor

/- Plain: arguments that are one cell: texts, numbers, bools, slices. -/
namespace Go.Proofs.YtngbbefpphinjaaGreatDoor
open Go Go.RowKit Go.Deep Go.ChangeShapes Go.WideShapes

set_option maxRecDepth 100000 in
theorem arg_sl {D : Type} {L : Lay D} {t e : TypeId} {H : Type} {enc : TypeId × Value → H} {w : World} {base b0 : Nat} {r : Reach} {spare : Nat → Bool} {held : Bool} {v : Value} {d : DataW H} {p : List MemPlace}
    (ht : Tryz.prog.underlying t = some (.slice e)) (ho : Opens Tryz.prog (slL L) t) (hv : Value.okWide Tryz.prog w r b0 t v) (h : DataW.Trod enc Tryz.prog w base spare held t v d p) (hb : Rows.uptoBulk d ≤ 1048576) : ∃ l, Sl L w v l := by
  obtain ⟨l, v', e1, h1⟩ := arg_one ho h hb
  obtain ⟨a, n, c, rfl⟩ := okWide_slice ht hv
  simp only [Value.cells, List.cons.injEq, and_true] at e1
  subst e1
  exact ⟨l, h1⟩
end Go.Proofs.YtngbbefpphinjaaGreatDoor

/- Plain: ops as an argument. -/
namespace Go.Proofs.YtngbbefpphinjaaGreatDoor
open Go Go.RowKit Go.Deep Go.ChangeShapes Go.WideShapes Go.Joins

def oprL : Lay Opr where
  sz := 11
  cells w o cs := ∃ vr, cs = (oprCells o vr).toList ∧ OprR w vr o
  len h := by obtain ⟨v, rfl, _⟩ := h; rfl
  below hb h := by obtain ⟨v, rfl, h1⟩ := h; exact ⟨v, rfl, h1.below hb⟩
set_option maxRecDepth 100000 in
theorem o_opr : Opens Tryz.prog oprL 37 := by
  intro H enc w base spare held fuel cs x hx hb
  obtain ⟨hl, hf⟩ := field_at Tryz.underlying37 hx hb
  rw [show Tryz.prog.cellsOf 37 = 11 from by kernel_rfl] at hl
  match cs, hl with
  | [c0, c1, c2, c3, c4, c5, c6, c7, c8, c9, c10], _ =>
    obtain ⟨a0, e0, h0⟩ := hf (L := intL) 0 _ 1 rfl (by kernel_rfl) oInt
    have e0 : [c0] = [.int .i64 a0] := e0
    injection e0 with e0 _
    subst e0
    obtain ⟨a1, vr, e1, k0, k1, k2⟩ := hf (L := nodL) 1 _ 3 rfl (by kernel_rfl) o_nod
    have e1 : [c1, c2, c3] = [.int .i64 a1.id, .string a1.kind, vr] := e1
    injection e1 with e1 e2
    injection e2 with e2 e3
    injection e3 with e3 _
    subst e1; subst e2; subst e3
    obtain ⟨a2, e4, h4⟩ := hf (L := prpL) 2 _ 4 rfl (by kernel_rfl) o_prp
    have e4 : [c4, c5, c6, c7] = [.string a2.name, .int .i64 a2.v.ty, .int .i64 a2.v.n, .string a2.v.s] := e4
    injection e4 with e4 e5
    injection e5 with e5 e6
    injection e6 with e6 e7
    injection e7 with e7 _
    subst e4; subst e5; subst e6; subst e7
    obtain ⟨a3, e8, h8⟩ := hf (L := tieL) 3 _ 3 rfl (by kernel_rfl) o_tie
    have e8 : [c8, c9, c10] = [.string a3.bond, .int .i64 a3.src, .int .i64 a3.dst] := e8
    injection e8 with e8 e9
    injection e9 with e9 e10
    injection e10 with e10 _
    subst e8; subst e9; subst e10
    exact ⟨⟨a0, a1, a2, a3⟩, c3, rfl, ⟨k2, k1, k0, h4, h8⟩⟩
theorem o_oprs : Opens Tryz.prog (slL oprL) 38 := Opens.slice Tryz.underlying38 (by kernel_rfl) (by decide) o_opr
theorem opr_at {w : World} {A : Option Addr} {k n c : Nat} {l : List Opr} (h : Sl oprL w (.slice A n c) l) {d : Opr} (hk : l[k]? = some d) :
    ∃ b o vr, A = some ⟨b, o, none⟩ ∧ OprR w vr d ∧ ∀ j u, (oprCells d vr).toList[j]? = some u → w.cell? ⟨b, o + k * 11 + j, none⟩ = some u := by
  obtain ⟨b, o, hA, hall⟩ := h.all (len_pos hk)
  obtain ⟨cs, ⟨vr, rfl, hr⟩, hx⟩ := hall k d hk
  exact ⟨b, o, vr, hA, hr, fun j u hj => by have h := hx j u hj; rw [← Nat.add_assoc] at h; exact h⟩
end Go.Proofs.YtngbbefpphinjaaGreatDoor

/- Contract: a checker tells a fault. No condition. -/
namespace Go.Proofs.YtngbbefpphinjaaGreatDoor
open Go Go.RowKit

end Go.Proofs.YtngbbefpphinjaaGreatDoor

/- Plain: a map from texts to ints that the call made, as a function. No condition. -/
namespace Go.Proofs.YtngbbefpphinjaaGreatDoor
open Go Go.RowKit
open Go.Maps (Keyed)

end Go.Proofs.YtngbbefpphinjaaGreatDoor

/- Contract: a checker and a record. No condition. -/
namespace Go.Proofs.YtngbbefpphinjaaGreatDoor
open Go Go.RowKit

end Go.Proofs.YtngbbefpphinjaaGreatDoor

/- Contract: a checker and a node by itself. No condition. -/
namespace Go.Proofs.YtngbbefpphinjaaGreatDoor
open Go Go.RowKit


end Go.Proofs.YtngbbefpphinjaaGreatDoor

/- Contract: whether an end of a tie is one. No condition. -/
namespace Go.Proofs.YtngbbefpphinjaaGreatDoor
open Go Go.RowKit


end Go.Proofs.YtngbbefpphinjaaGreatDoor

/- Plain: a map from the checker's keys (a text and a value) to bools that the call made, as a list of keys. No condition. -/
namespace Go.Proofs.YtngbbefpphinjaaGreatDoor
open Go Go.RowKit

end Go.Proofs.YtngbbefpphinjaaGreatDoor

/- Contract: graph.Node. -/
namespace Go.Proofs.YtngbbefpphinjaaGreatDoor
open Go Go.RowKit

end Go.Proofs.YtngbbefpphinjaaGreatDoor

/- Plain: ends of ties of a graph; as many go out as come in, but for those that lead nowhere. No condition. -/
namespace Go.Proofs.YtngbbefpphinjaaGreatDoor

end Go.Proofs.YtngbbefpphinjaaGreatDoor

/- Contract: slices.Sort at whole numbers, at a row of the call's own. No condition. -/
namespace Go.Proofs.YtngbbefpphinjaaGreatDoor
open Go Go.RowKit Go.Sort Go.Proofs

-- written by sortlay.py for the seat YtngbbefpphinjaaGreatDoor
end Go.Proofs.YtngbbefpphinjaaGreatDoor

/- Contract: graph.Ends. -/
namespace Go.Proofs.YtngbbefpphinjaaGreatDoor
open Go Go.RowKit

end Go.Proofs.YtngbbefpphinjaaGreatDoor

/- Plain: all faults of a graph, by a schema. No condition. -/
namespace Go.Proofs.YtngbbefpphinjaaGreatDoor
open Go Go.RowKit

end Go.Proofs.YtngbbefpphinjaaGreatDoor

/- Plain: a graph that conforms: each node is right by itself. No condition. -/
namespace Go.Proofs.YtngbbefpphinjaaGreatDoor
open Go Go.RowKit

end Go.Proofs.YtngbbefpphinjaaGreatDoor

/- Plain: a whole struct is stored into a block of its own type. No condition. -/
namespace Go.Proofs.YtngbbefpphinjaaGreatDoor
open Go Go.RowKit
section
variable {P : Program}

end
end Go.Proofs.YtngbbefpphinjaaGreatDoor

/- Contract: a checker and a node with others. No condition. (under way) -/
namespace Go.Proofs.YtngbbefpphinjaaGreatDoor
open Go Go.RowKit


end Go.Proofs.YtngbbefpphinjaaGreatDoor

/- Contract: what is wrong with a schema and a graph by themselves. No condition. -/
namespace Go.Proofs.YtngbbefpphinjaaGreatDoor
open Go Go.RowKit

end Go.Proofs.YtngbbefpphinjaaGreatDoor

/- Contract: check.Of: all faults of a graph, by a schema, both being right. -/
namespace Go.Proofs.YtngbbefpphinjaaGreatDoor
open Go Go.RowKit


end Go.Proofs.YtngbbefpphinjaaGreatDoor

/- Contracts: check.Faults, check.Conforms, check.NodeFaults. No condition. -/
namespace Go.Proofs.YtngbbefpphinjaaGreatDoor
open Go Go.RowKit

/-! ### A node by itself -/
end Go.Proofs.YtngbbefpphinjaaGreatDoor

/- Contract: kinlaw4.simple. No condition. -/
namespace Go.Proofs.YtngbbefpphinjaaGreatDoor
open Go Go.RowKit

end Go.Proofs.YtngbbefpphinjaaGreatDoor

/- Contracts: kinlaw4.number, kinlaw4.many: so many nodes in a row. -/
namespace Go.Proofs.YtngbbefpphinjaaGreatDoor
open Go Go.RowKit

end Go.Proofs.YtngbbefpphinjaaGreatDoor

/- Plain: ops that are asked ahead, and done: what the guard tells. No condition. -/
namespace Go.Proofs.YtngbbefpphinjaaGreatDoor
open Go

/-- What delta.All answers. -/
def dallE (g : Grf) (l : List Opr) : Int := if 40 < l.length then 4 else if grfE g = 0 then allE g l else grfE g
def dallG (g : Grf) (l : List Opr) : Grf := if dallE g l = 0 then allG g l else ⟨[], []⟩
/-- Which op is wrong. -/
def allI (g : Grf) : List Opr → Nat
  | [] => 0
  | o :: r => if opE g o = 0 then allI (opG g o) r + 1 else 0
def dallI (g : Grf) (l : List Opr) : Nat := if 40 < l.length then 0 else if grfE g = 0 then (if allE g l = 0 then 0 else allI g l) else 0
end Go.Proofs.YtngbbefpphinjaaGreatDoor

/- Contract: delta.All: ops one behind the other. No condition. -/
namespace Go.Proofs.YtngbbefpphinjaaGreatDoor
open Go Go.RowKit

/-- A graph, which op is wrong, and an error. -/
def RetAO (g : Grf) (n : Nat) (err : Int) (w : World) (e : Ending) (w' : World) : Prop := ∃ vn vt, e = .returned (.tuple #[.agg #[vn, vt], .int .i64 n, errV err]) ∧ (∃ B xs, OwnG w' B vn vt g xs) ∧ Below w.heap.size w w'
def RetA (g : Grf) (n : Nat) (err : Int) (w : World) (e : Ending) (w' : World) : Prop := ∃ vn vt, e = .returned (.tuple #[.agg #[vn, vt], .int .i64 n, errV err]) ∧ GrfR w' vn vt g ∧ Below w.heap.size w w'
theorem all_at {l : List Opr} {k : Nat} {o : Opr} (h : l[k]? = some o) (g : Grf) : allE g (l.drop k) = (if opE g o = 0 then allE (opG g o) (l.drop (k + 1)) else opE g o) ∧ allG g (l.drop k) = (if opE g o = 0 then allG (opG g o) (l.drop (k + 1)) else ⟨[], []⟩) ∧
    allI g (l.drop k) = (if opE g o = 0 then allI (opG g o) (l.drop (k + 1)) + 1 else 0) := by
  rw [drop_cons h]; exact ⟨rfl, rfl, rfl⟩
theorem grf_work2 {g : Grf} (h : grfE g = 0) : chain nodLt g.nodes = true ∧ chain tieLt g.ties = true ∧ g.nodes.length ≤ 60 ∧ g.ties.length ≤ 120 ∧ ∀ d ∈ g.nodes, d.props.length ≤ 1000 := by
  obtain ⟨h1, h2, h3, h4⟩ := grf_ok h
  exact ⟨h3, (grf_ties h).1, h1, h2, fun d hd => by have := (rec_ok (nod_rec' (h4 d hd).2)).1; omega⟩
/-- At the head of the loop: the graph in the law's box is the call's own. -/
structure AInv (w : World) (B : Nat) (g : Grf) (l : List Opr) (k : Nat) (gk : Grf) (vn vt : Value) (xs : List Value) (wr : World) : Prop where
  q : wr.heap[w.heap.size]? = some (.cells #[vn, vt] 25 (0, 0))
  p : wr.heap[w.heap.size + 1]? = some (.cells #[.slice none 0 0, .slice none 0 0] 25 (0, 0))
  o : OwnG wr B vn vt gk xs
  r : grfE gk = 0
  b : Below w.heap.size w wr
  z : B ≤ wr.heap.size
  ee : allE g l = allE gk (l.drop k)
  gg : allG g l = allG gk (l.drop k)
  ii : allI g l = allI gk (l.drop k) + k
theorem AInv.below {w wr wx : World} {B : Nat} {g : Grf} {l : List Opr} {k : Nat} {gk : Grf} {vn vt : Value} {xs : List Value} (h : AInv w B g l k gk vn vt xs wr) (hb : Below wr.heap.size wr wx) : AInv w B g l k gk vn vt xs wx :=
  ⟨(hb.block _ (Array.getElem?_eq_some_iff.1 h.q).1).trans h.q, (hb.block _ (Array.getElem?_eq_some_iff.1 h.p).1).trans h.p, h.o.below hb, h.r, h.b.trans (hb.mono h.b.size), Nat.le_trans h.z hb.size, h.ee, h.gg, h.ii⟩
set_option maxRecDepth 100000 in
set_option maxHeartbeats 16000000 in
theorem dall_own (g : Grf) (l : List Opr) (vn vt vl : Value) (w : World) (hG : GrfR w vn vt g) (hL : Sl oprL w vl l) :
    Calls Tryz.prog 13 #[.agg #[vn, vt], vl] w (RetAO (dallG g l) (dallI g l) (dallE g l) w) := by
  obtain ⟨An, cn, rfl, _, _⟩ := hG.1.form
  obtain ⟨At, ct, rfl, _, _⟩ := hG.2.form
  obtain ⟨Al, cl, rfl, hlc, hlm⟩ := hL.form
  unfold maxLen at hlm
  obtain ⟨W0, hW0⟩ : ∃ W0, W0 = (w.alloc (.cells #[.slice An g.nodes.length cn, .slice At g.ties.length ct] 25)).alloc (.cells #[.slice none 0 0, .slice none 0 0] 25) := ⟨_, rfl⟩
  have hb0 : Below w.heap.size w W0 := by rw [hW0]; exact ((Below.refl _ _).alloc (Nat.le_refl _) _).alloc (by simp) _
  have g0 : W0.heap[w.heap.size]? = some (.cells #[.slice An g.nodes.length cn, .slice At g.ties.length ct] 25 (0, 0)) := by
    rw [hW0, Below.heap_alloc _ _ _ (by simp)]; exact heap_alloc_new _ _
  have g1 : W0.heap[w.heap.size + 1]? = some (.cells #[.slice none 0 0, .slice none 0 0] 25 (0, 0)) := by
    have := heap_alloc_new (w.alloc (.cells #[.slice An g.nodes.length cn, .slice At g.ties.length ct] 25)) (.cells #[.slice none 0 0, .slice none 0 0] 25); rw [hW0]; simpa using this
  have hsz : W0.heap.size = w.heap.size + 2 := by rw [hW0]; simp
  have hW0' := hW0.symm
  have hw0 := hb0.size
  have HDE : Hid (dallE g l = if 40 < l.length then 4 else if grfE g = 0 then allE g l else grfE g) := rfl
  have HDG : Hid (dallG g l = if dallE g l = 0 then allG g l else ⟨[], []⟩) := rfl
  have HDI : Hid (dallI g l = if 40 < l.length then 0 else if grfE g = 0 then (if allE g l = 0 then 0 else allI g l) else 0) := rfl
  generalize dallE g l = de at *
  generalize dallG g l = dg at *
  generalize dallI g l = di at *
  have HG := Lib.hid (hG.below hb0)
  have HL := Lib.hid (hL.below hb0)
  have hck := grfCheck_any g _ _ W0 (hG.below hb0)
  have G0 := Lib.hid g0
  have G1 := Lib.hid g1
  have hL0 := hL
  clear hG hL hW0
  by_cases hl40 : 40 < l.length
  · clear hL0
    have HEE : Hid (errV de = .iface 122 (.int .i64 4) ∧ dg = ⟨[], []⟩ ∧ (di : Int) = 0) := by
      have h0 : de = 4 := by rw [HDE.out, if_pos hl40]
      exact ⟨by rw [h0]; rfl, by rw [HDG.out, h0]; rfl, by rw [HDI.out, if_pos hl40]; rfl⟩
    have hl40' : (40 : Int) < (l.length : Int) := by omega
    clear HDE HDG HDI hck g0
    go_enter Tryz.func13, Tryz.ntmps13
    go_upto_region 1 with fail
    clear hW0'
    -- no graph comes back: W0: the world; g1: that the result's block stands there; hb0: above w; 0: which op; .iface 122 (.int .i64 4): the error's term
    -- what is returned is stored: W0: the world; g1: the block stands there
    have a0 := block_free (g1) 0
    have a1 := block_free (g1) 1
    have a2 := block_cell (g1) 0
    have a3 := block_cell (g1) 1
    have HP4 := Lib.hid (setCell_block (setCell_block (g1) 0 (.slice none 0 0)) 1 (.slice none 0 0))
    clear g1
    go_wp2_with fail
    have k2 := block_cell HP4.out 0
    have k3 := block_cell HP4.out 1
    exact bodyPost_ret (v := .tuple #[.agg #[.slice none 0 0, .slice none 0 0], .int .i64 (0), .iface 122 (.int .i64 4)]) (by simp [results, Tryz.results13, go_sem, k2, k3]) rfl
      ⟨.slice none 0 0, .slice none 0 0, by rw [HEE.out.1, HEE.out.2.2], by rw [HEE.out.2.1]; exact ⟨0, [], OwnG.nil⟩, ((hb0).setCell (p := ⟨w.heap.size + 1, 0, none⟩) (by show w.heap.size ≤ w.heap.size + 1; omega) _).setCell (p := ⟨w.heap.size + 1, 1, none⟩) (by show w.heap.size ≤ w.heap.size + 1; omega) _⟩
  have hl40' : ¬ ((40 : Int) < (l.length : Int)) := by omega
  have x0 := block_cell g0 0
  have x1 := block_cell g0 1
  clear g0 g1
  go_enter Tryz.func13, Tryz.ntmps13
  go_wp2_with fail
  clear hW0'
  refine hck.mono ?_
  clear hck x0 x1
  rintro e w1 ⟨rfl, hb1⟩
  have hB1 := hb0.trans (hb1.mono hw0)
  have m0 := (hb1.block _ (Array.getElem?_eq_some_iff.1 G0.out).1).trans G0.out
  have m1 := (hb1.block _ (Array.getElem?_eq_some_iff.1 G1.out).1).trans G1.out
  have hs1 := hb1.size
  by_cases he : grfE g = 0
  case neg =>
    have HEE : Hid (errV de = .iface 122 (.int .i64 (grfE g)) ∧ dg = ⟨[], []⟩ ∧ (di : Int) = 0) := by
      have h0 : de = grfE g := by rw [HDE.out, if_neg hl40, if_neg he]
      exact ⟨by rw [h0]; exact errV_some he, by rw [HDG.out, h0, if_neg he], by rw [HDI.out, if_neg hl40, if_neg he]; rfl⟩
    rw [errV_some he]
    clear he HDE HDG HDI m0 hL0
    -- no graph comes back: w1: the world; m1: that the result's block stands there; hB1: above w; 0: which op; .iface 122 (.int .i64 (grfE g)): the error's term
    -- what is returned is stored: w1: the world; m1: the block stands there
    have a0 := block_free (m1) 0
    have a1 := block_free (m1) 1
    have a2 := block_cell (m1) 0
    have a3 := block_cell (m1) 1
    have HP4 := Lib.hid (setCell_block (setCell_block (m1) 0 (.slice none 0 0)) 1 (.slice none 0 0))
    clear m1
    go_wp2_with fail
    have k2 := block_cell HP4.out 0
    have k3 := block_cell HP4.out 1
    exact bodyPost_ret (v := .tuple #[.agg #[.slice none 0 0, .slice none 0 0], .int .i64 (0), .iface 122 (.int .i64 (grfE g))]) (by simp [results, Tryz.results13, go_sem, k2, k3]) rfl
      ⟨.slice none 0 0, .slice none 0 0, by rw [HEE.out.1, HEE.out.2.2], by rw [HEE.out.2.1]; exact ⟨0, [], OwnG.nil⟩, ((hB1).setCell (p := ⟨w.heap.size + 1, 0, none⟩) (by show w.heap.size ≤ w.heap.size + 1; omega) _).setCell (p := ⟨w.heap.size + 1, 1, none⟩) (by show w.heap.size ≤ w.heap.size + 1; omega) _⟩
  rw [errV_zero he]
  obtain ⟨k1, k2, k3, k4, k5⟩ := grf_work2 he
  have hown := own_any g _ _ w1 (HG.out.below hb1) (by omega) (by omega) k5
  have HD2 : Hid (de = allE g l ∧ dg = (if de = 0 then allG g l else ⟨[], []⟩) ∧ di = (if allE g l = 0 then 0 else allI g l)) := ⟨by rw [HDE.out, if_neg hl40, if_pos he], HDG.out, by rw [HDI.out, if_neg hl40, if_pos he]⟩
  have x0 := block_cell m0 0
  have x1 := block_cell m0 1
  have f0 := block_free m0 0
  have f1 := block_free m0 1
  have HGE := Lib.hid he
  have M0 := Lib.hid m0
  have M1 := Lib.hid m1
  clear HDE HDG HDI he m0 m1 k1 k2 k3 k4 k5
  have HLW := Lib.hid hL0
  clear hL0
  have hB1s : w.heap.size + 2 ≤ w1.heap.size := by omega
  go_wp2_with fail
  refine hown.mono ?_
  clear hown x0 x1
  rintro e w2 ⟨un, ut, ys, rfl, ho2, hb2⟩
  obtain ⟨A2, c2, rfl, _, _⟩ := ho2.n.form
  obtain ⟨A3, c3, rfl, _, _⟩ := ho2.t.form
  have n0 := (hb2.block _ (Array.getElem?_eq_some_iff.1 M0.out).1).trans M0.out
  have n1 := (hb2.block _ (Array.getElem?_eq_some_iff.1 M1.out).1).trans M1.out
  have hI0 : AInv w w1.heap.size g l 0 g (.slice A2 g.nodes.length c2) (.slice A3 g.ties.length c3) ys ((w2.setCell ⟨w.heap.size, 0, none⟩ (.slice A2 g.nodes.length c2)).setCell ⟨w.heap.size, 1, none⟩ (.slice A3 g.ties.length c3)) := by
    have hS : ∀ T, 25 ≠ T → Same T w2 ((w2.setCell ⟨w.heap.size, 0, none⟩ (.slice A2 g.nodes.length c2)).setCell ⟨w.heap.size, 1, none⟩ (.slice A3 g.ties.length c3)) := fun T hT => (Same.setCell (p := ⟨w.heap.size, 0, none⟩) n0 hT _).trans (Same.setCell (p := ⟨w.heap.size, 1, none⟩) (setCell_block n0 0 _) hT _)
    refine ⟨setCell_block (setCell_block n0 0 _) 1 _, ?_, ho2.same (hS _ (by decide)) (hS _ (by decide)) (hS _ (by decide)), HGE.out, ((hB1.trans (hb2.mono (by omega))).setCell (p := ⟨w.heap.size, 0, none⟩) (Nat.le_refl _) _).setCell (p := ⟨w.heap.size, 1, none⟩) (Nat.le_refl _) _, ?_, by rw [List.drop_zero], by rw [List.drop_zero], by rw [List.drop_zero]; rfl⟩
    · rw [Below.heap_setCell _ _ _ _ (by show w.heap.size + 1 ≠ w.heap.size; omega), Below.heap_setCell _ _ _ _ (by show w.heap.size + 1 ≠ w.heap.size; omega)]; exact n1
    · have := hb2.size; simp [World.setCell]; omega
  have f0 := block_free n0 0
  have f1 := block_free n0 1
  have x0 := block_cell n0 0
  have x1 := block_cell n0 1
  have HI0 := Lib.hid hI0
  clear hI0 n0 n1 ho2 hb2
  go_wp2_with fail
  clear f0 f1 x0 x1
  go_loopw [27] (fun i wr => ∃ (k : Nat) (gk : Grf) (vn vt : Value) (xs : List Value), k ≤ l.length ∧ i = .int .i64 k ∧ AInv w w1.heap.size g l k gk vn vt xs wr) (fun i _ => l.length - (intOf i).toNat)
  case atStart => exact ⟨0, g, _, _, ys, Nat.zero_le _, rfl, HI0.out⟩
  case round =>
    clear HI0
    obtain ⟨k, gk, vnk, vtk, xs, hk, rfl, hI⟩ := hrel
    obtain ⟨A4, c4, rfl, _, _⟩ := hI.o.n.form
    obtain ⟨A5, c5, rfl, _, _⟩ := hI.o.t.form
    have HI := Lib.hid hI
    have hbw := hI.b
    have hbs := hI.z
    clear hI
    by_cases hlt : k < l.length
    · obtain ⟨o, hd⟩ : ∃ d, l[k]? = some d := ⟨_, List.getElem?_eq_getElem hlt⟩
      have hlt' : (k : Int) < (l.length : Int) := by omega
      obtain ⟨bo, oo, vr, hA, hor, hcells⟩ := opr_at (HLW.out.below hbw) hd
      subst hA
      obtain ⟨hN1, hN2, hN3⟩ := all_at hd gk
      have HN := Lib.hid (And.intro hN1 (And.intro hN2 hN3))
      obtain ⟨Ar, cr, hvr, _, _⟩ := hor.r.form
      subst hvr
      obtain ⟨what, node, prop, tie⟩ := o
      have q0 : wr.cell? ⟨bo, oo + k * 11, none⟩ = some (.int .i64 what) := hcells 0 _ rfl
      have q1 : wr.cell? ⟨bo, oo + k * 11 + 1, none⟩ = some (.int .i64 node.id) := hcells 1 _ rfl
      have q2 : wr.cell? ⟨bo, oo + k * 11 + 2, none⟩ = some (.string node.kind) := hcells 2 _ rfl
      have q3 : wr.cell? ⟨bo, oo + k * 11 + 3, none⟩ = some (.slice Ar node.props.length cr) := hcells 3 _ rfl
      have q4 : wr.cell? ⟨bo, oo + k * 11 + 4, none⟩ = some (.string prop.name) := hcells 4 _ rfl
      have q5 : wr.cell? ⟨bo, oo + k * 11 + 5, none⟩ = some (.int .i64 prop.v.ty) := hcells 5 _ rfl
      have q6 : wr.cell? ⟨bo, oo + k * 11 + 6, none⟩ = some (.int .i64 prop.v.n) := hcells 6 _ rfl
      have q7 : wr.cell? ⟨bo, oo + k * 11 + 7, none⟩ = some (.string prop.v.s) := hcells 7 _ rfl
      have q8 : wr.cell? ⟨bo, oo + k * 11 + 8, none⟩ = some (.string tie.bond) := hcells 8 _ rfl
      have q9 : wr.cell? ⟨bo, oo + k * 11 + 9, none⟩ = some (.int .i64 tie.src) := hcells 9 _ rfl
      have q10 : wr.cell? ⟨bo, oo + k * 11 + 10, none⟩ = some (.int .i64 tie.dst) := hcells 10 _ rfl
      have hbk := heap_alloc_new wr (.cells #[.int .i64 what, .int .i64 node.id, .string node.kind, .slice Ar node.props.length cr, .string prop.name, .int .i64 prop.v.ty, .int .i64 prop.v.n, .string prop.v.s, .string tie.bond, .int .i64 tie.src, .int .i64 tie.dst] 37)
      have ha1 : Below wr.heap.size wr (wr.alloc (.cells #[.int .i64 what, .int .i64 node.id, .string node.kind, .slice Ar node.props.length cr, .string prop.name, .int .i64 prop.v.ty, .int .i64 prop.v.n, .string prop.v.s, .string tie.bond, .int .i64 tie.src, .int .i64 tie.dst] 37)) := (Below.refl _ _).alloc (Nat.le_refl _) _
      have HOR := Lib.hid hor
      clear hd hcells hor hN1 hN2 hN3
      go_upto_region 10 with fail
      generalize wr.alloc (.cells #[.int .i64 what, .int .i64 node.id, .string node.kind, .slice Ar node.props.length cr, .string prop.name, .int .i64 prop.v.ty, .int .i64 prop.v.n, .string prop.v.s, .string tie.bond, .int .i64 tie.src, .int .i64 tie.dst] 37) = wa at *
      clear q0 q1 q2 q3 q4 q5 q6 q7 q8 q9 q10
      have hIa := HI.out.below ha1
      obtain ⟨j1, j2, j3, j4, _⟩ := grf_work2 HI.out.r
      have hdo := do_any gk ⟨what, node, prop, tie⟩ _ _ (.slice Ar node.props.length cr) xs w1.heap.size wa (by have := ha1.size; omega) hIa.o (HOR.out.below ha1) j1 j2 (by omega) (by omega)
      have y0 := block_cell hbk 0
      have y1 := block_cell hbk 1
      have y2 := block_cell hbk 2
      have y3 := block_cell hbk 3
      have y4 := block_cell hbk 4
      have y5 := block_cell hbk 5
      have y6 := block_cell hbk 6
      have y7 := block_cell hbk 7
      have y8 := block_cell hbk 8
      have y9 := block_cell hbk 9
      have y10 := block_cell hbk 10
      have x0 := block_cell hIa.q 0
      have x1 := block_cell hIa.q 1
      have HIA := Lib.hid hIa
      have hdo' : Calls Tryz.prog 49 #[.agg #[.slice A4 gk.nodes.length c4, .slice A5 gk.ties.length c5], .agg #[.int .i64 what, .int .i64 node.id, .string node.kind, .slice Ar node.props.length cr, .string prop.name, .int .i64 prop.v.ty, .int .i64 prop.v.n, .string prop.v.s, .string tie.bond, .int .i64 tie.src, .int .i64 tie.dst]] wa (RetOG w1.heap.size (.slice A4 gk.nodes.length c4) (.slice A5 gk.ties.length c5) (opG gk ⟨what, node, prop, tie⟩) (opE gk ⟨what, node, prop, tie⟩) wa) := hdo
      clear hIa j1 j2 j3 j4 hbk hdo
      generalize hge : opE gk ⟨what, node, prop, tie⟩ = oe at *
      generalize hgg : opG gk ⟨what, node, prop, tie⟩ = og at *
      have HGE2 := Lib.hid hge
      have HGG := Lib.hid hgg
      clear hge hgg
      go_wp2_with fail
      refine hdo'.mono ?_
      clear hdo' y0 y1 y2 y3 y4 y5 y6 y7 y8 y9 y10 x0 x1
      rintro e w3 ⟨un, ut, rfl, how, ⟨A6, n6, c6, A7, n7, c7, rfl, rfl⟩, hB3, hK3⟩
      have hs3 := hK3.s
      have p0 := (hB3.block _ (by omega)).trans HIA.out.q
      have p1 := (hB3.block _ (by omega)).trans HIA.out.p
      have hx3 : Below w3.heap.size w3 (w3.alloc (.cells #[.slice A6 n6 c6, .slice A7 n7 c7] 25)) := (Below.refl _ _).alloc (Nat.le_refl _) _
      have r0 := (hx3.block _ (Array.getElem?_eq_some_iff.1 p0).1).trans p0
      have r1 := (hx3.block _ (Array.getElem?_eq_some_iff.1 p1).1).trans p1
      have rn := heap_alloc_new w3 (.cells #[.slice A6 n6 c6, .slice A7 n7 c7] 25)
      have hbx : Below w.heap.size w (w3.alloc (.cells #[.slice A6 n6 c6, .slice A7 n7 c7] 25)) := (HIA.out.b.trans (hB3.mono (by omega))).alloc (by have := ha1.size; have := hbw.size; omega) _
      have has := ha1.size
      by_cases hoe : oe = 0
      · have how2 := how hoe
        obtain ⟨zs, hz⟩ := how2
        have hzx := hz.below hx3
        have hnn : n6 = og.nodes.length ∧ n7 = og.ties.length := by
          obtain ⟨a1, a2, a3, _, _⟩ := hz.n.form
          obtain ⟨b1, b2, b3, _, _⟩ := hz.t.form
          injection a3 with _ a3 _
          injection b3 with _ b3 _
          exact ⟨a3, b3⟩
        rw [errV_zero hoe]
        have hE : AInv w w1.heap.size g l (k + 1) og (.slice A6 n6 c6) (.slice A7 n7 c7) zs (((w3.alloc (.cells #[.slice A6 n6 c6, .slice A7 n7 c7] 25)).setCell ⟨w.heap.size, 0, none⟩ (.slice A6 n6 c6)).setCell ⟨w.heap.size, 1, none⟩ (.slice A7 n7 c7)) := by
          have hS : ∀ T, 25 ≠ T → Same T (w3.alloc (.cells #[.slice A6 n6 c6, .slice A7 n7 c7] 25)) (((w3.alloc (.cells #[.slice A6 n6 c6, .slice A7 n7 c7] 25)).setCell ⟨w.heap.size, 0, none⟩ (.slice A6 n6 c6)).setCell ⟨w.heap.size, 1, none⟩ (.slice A7 n7 c7)) := fun T hT => (Same.setCell (p := ⟨w.heap.size, 0, none⟩) r0 hT _).trans (Same.setCell (p := ⟨w.heap.size, 1, none⟩) (setCell_block r0 0 _) hT _)
          obtain ⟨e1, e2, e3⟩ := HN.out
          have e1 : allE gk (l.drop k) = if oe = 0 then allE og (l.drop (k + 1)) else oe := e1
          have e2 : allG gk (l.drop k) = if oe = 0 then allG og (l.drop (k + 1)) else ⟨[], []⟩ := e2
          have e3 : allI gk (l.drop k) = if oe = 0 then allI og (l.drop (k + 1)) + 1 else 0 := e3
          rw [if_pos hoe] at e1 e2 e3
          refine ⟨setCell_block (setCell_block r0 0 _) 1 _, ?_, hzx.same (hS _ (by decide)) (hS _ (by decide)) (hS _ (by decide)), ?_, (hbx.setCell (p := ⟨w.heap.size, 0, none⟩) (Nat.le_refl _) _).setCell (p := ⟨w.heap.size, 1, none⟩) (Nat.le_refl _) _, ?_, by rw [HIA.out.ee, e1], by rw [HIA.out.gg, e2], by rw [HIA.out.ii, e3]; omega⟩
          · rw [Below.heap_setCell _ _ _ _ (by show w.heap.size + 1 ≠ w.heap.size; omega), Below.heap_setCell _ _ _ _ (by show w.heap.size + 1 ≠ w.heap.size; omega)]; exact r1
          · have := op_right HIA.out.r (HGE2.out.trans hoe)
            rw [HGG.out] at this
            exact this
          · simp [World.setCell]; omega
        have HE := Lib.hid hE
        have a0 := block_free r0 0
        have a1 := block_free r0 1
        have a2 := block_cell r0 0
        have a3 := block_cell r0 1
        have a4 := block_cell rn 0
        have a5 := block_cell rn 1
        clear hE hz hzx how p0 p1 r0 r1 rn hB3 hK3 hoe hnn hx3 hbx
        go_wp2_with fail
        go_roundw
        case rel => exact ⟨k + 1, og, _, _, zs, by omega, by go_num, HE.out⟩
        case measure => simp [intOf]; omega
      · have HEE : Hid (errV de = .iface 122 (.int .i64 oe) ∧ dg = ⟨[], []⟩ ∧ (di : Int) = k) := by
          obtain ⟨e1, e2, e3⟩ := HN.out
          have e1 : allE gk (l.drop k) = if oe = 0 then allE og (l.drop (k + 1)) else oe := e1
          have e3 : allI gk (l.drop k) = if oe = 0 then allI og (l.drop (k + 1)) + 1 else 0 := e3
          rw [if_neg hoe] at e1 e3
          have h0 : de = oe := by rw [HD2.out.1, HIA.out.ee, e1]
          refine ⟨by rw [h0]; exact errV_some hoe, by rw [HD2.out.2.1, h0, if_neg hoe], ?_⟩
          rw [HD2.out.2.2, ← HD2.out.1, h0, if_neg hoe, HIA.out.ii, e3]; omega
        rw [errV_some hoe]
        clear how p0 p1 r0 rn hB3 hK3 hoe hx3 HD2 HN
        generalize hwx : w3.alloc (.cells #[.slice A6 n6 c6, .slice A7 n7 c7] 25) = wx at *
        -- what is returned is stored: wx: the world; r1: the block stands there
        have a0 := block_free (r1) 0
        have a1 := block_free (r1) 1
        have a2 := block_cell (r1) 0
        have a3 := block_cell (r1) 1
        have HP4 := Lib.hid (setCell_block (setCell_block r1 0 (.slice none 0 0)) 1 (.slice none 0 0))
        clear r1
        go_wp2_with fail
        have k2 := block_cell HP4.out 0
        have k3 := block_cell HP4.out 1
        exact bodyPost_ret (v := .tuple #[.agg #[.slice none 0 0, .slice none 0 0], .int .i64 k, .iface 122 (.int .i64 oe)]) (by simp [results, Tryz.results13, go_sem, k2, k3]) rfl
          ⟨.slice none 0 0, .slice none 0 0, by rw [HEE.out.1, HEE.out.2.2], by rw [HEE.out.2.1]; exact ⟨0, [], OwnG.nil⟩, (hbx.setCell (p := ⟨w.heap.size + 1, 0, none⟩) (by show w.heap.size ≤ w.heap.size + 1; omega) _).setCell (p := ⟨w.heap.size + 1, 1, none⟩) (by show w.heap.size ≤ w.heap.size + 1; omega) _⟩
    · obtain rfl : k = l.length := by omega
      have HEE : Hid (errV de = .nilIface ∧ dg = gk ∧ (di : Int) = 0) := by
        have e1 := HI.out.ee
        have e2 := HI.out.gg
        rw [List.drop_length] at e1 e2
        have e1 : allE g l = 0 := e1
        have e2 : allG g l = gk := e2
        have h0 : de = 0 := by rw [HD2.out.1, e1]
        exact ⟨by rw [h0]; rfl, by rw [HD2.out.2.1, if_pos h0, e2], by rw [HD2.out.2.2, if_pos e1]; rfl⟩
      have x0 := block_cell HI.out.q 0
      have x1 := block_cell HI.out.q 1
      have a0 := block_free HI.out.p 0
      have a1 := block_free HI.out.p 1
      have a2 := block_cell HI.out.p 0
      have a3 := block_cell HI.out.p 1
      have HP4 := Lib.hid (setCell_block (setCell_block HI.out.p 0 (.slice A4 gk.nodes.length c4)) 1 (.slice A5 gk.ties.length c5))
      have HR : Hid (∃ B xs, OwnG ((wr.setCell ⟨w.heap.size + 1, 0, none⟩ (.slice A4 gk.nodes.length c4)).setCell ⟨w.heap.size + 1, 1, none⟩ (.slice A5 gk.ties.length c5)) B (.slice A4 gk.nodes.length c4) (.slice A5 gk.ties.length c5) gk xs) := by
        have hS : ∀ T, 25 ≠ T → Same T wr ((wr.setCell ⟨w.heap.size + 1, 0, none⟩ (.slice A4 gk.nodes.length c4)).setCell ⟨w.heap.size + 1, 1, none⟩ (.slice A5 gk.ties.length c5)) := fun T hT => (Same.setCell (p := ⟨w.heap.size + 1, 0, none⟩) HI.out.p hT _).trans (Same.setCell (p := ⟨w.heap.size + 1, 1, none⟩) (setCell_block HI.out.p 0 _) hT _)
        exact ⟨_, _, HI.out.o.same (hS _ (by decide)) (hS _ (by decide)) (hS _ (by decide))⟩
      have HBW := Lib.hid ((hbw.setCell (p := ⟨w.heap.size + 1, 0, none⟩) (by show w.heap.size ≤ w.heap.size + 1; omega) (.slice A4 gk.nodes.length c4)).setCell (p := ⟨w.heap.size + 1, 1, none⟩) (by show w.heap.size ≤ w.heap.size + 1; omega) (.slice A5 gk.ties.length c5))
      clear hbw hlt HD2
      go_wp2_with fail
      have k2 := block_cell HP4.out 0
      have k3 := block_cell HP4.out 1
      exact bodyPost_ret (v := .tuple #[.agg #[.slice A4 gk.nodes.length c4, .slice A5 gk.ties.length c5], .int .i64 0, .nilIface]) (by simp [results, Tryz.results13, go_sem, k2, k3]) rfl
        ⟨_, _, by rw [HEE.out.1, HEE.out.2.2], by rw [HEE.out.2.1]; exact HR.out, HBW.out⟩
theorem dall_any (g : Grf) (l : List Opr) (vn vt vl : Value) (w : World) (hG : GrfR w vn vt g) (hL : Sl oprL w vl l) :
    Calls Tryz.prog 13 #[.agg #[vn, vt], vl] w (RetA (dallG g l) (dallI g l) (dallE g l) w) := (dall_own g l vn vt vl w hG hL).mono fun _ _ h => by
  obtain ⟨un, ut, h1, ⟨B, xs, h2⟩, h3⟩ := h
  exact ⟨un, ut, h1, h2.r, h3⟩
end Go.Proofs.YtngbbefpphinjaaGreatDoor
