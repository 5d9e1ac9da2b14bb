/- Parts: OpenA, OpenB, OpenC, OpenH, Arg5, LaidW, TxG. -/
import Derived.Test.YtdmpkgiijddcdaaGreatDoorMg01
import Derived.Test.YtdmpkgiijddcdaaGreatDoorRows
import Derived.Deep.Slices
import Derived.Lib.SmallJoins
import Derived.JoinedCond
import Derived.Carry
import Derived.ChangeMaps5
import Derived.Lib.LaidU8
import Derived.LaidHandle
import Derived.MakeChecks
import Derived.Test.YtdmpkgiijddcdaaGreatDoorMg09
import Derived.LaidLaws
import Derived.Lib.LaidTab
import Derived.Shelf.Vars
/- Plain: what comes in, read as data of bulk at most 1048576, lies in memory as the contracts want it. -/
namespace Go.Proofs.YtdmpkgiijddcdaaGreatDoor
open Go Go.RowKit Go.Deep Go.ChangeShapes Go.WideShapes Go.Joins

/-! ### Bulk -/
section
variable {H : Type}
theorem bulk_part {d : DataW H} {l : List (DataW H)} (h : d ∈ l) : Rows.uptoBulk d ≤ Rows.uptoBulkAll l := by
  induction l with
  | nil => cases h
  | cons x r ih =>
    simp only [Rows.uptoBulkAll]
    cases List.mem_cons.1 h with
    | inl e => subst e; omega
    | inr e => have := ih e; omega
theorem bulk_small {ds : List (DataW H)} (hk : Rows.uptoSmall H ds = true) {d : DataW H} (h : d ∈ ds) : Rows.uptoBulk d ≤ 1048576 := by
  have h1 : Rows.uptoBulkAll ds ≤ 1048576 := of_decide_eq_true hk
  have := bulk_part h
  omega
end

/-- Data of type t lie as L says. -/
def Opens {D : Type} (P : Program) (L : Lay D) (t : TypeId) : Prop :=
  ∀ (H : Type) (enc : TypeId × Value → H) (w : World) (base : Nat) (spare : Nat → Bool) (held : Bool) (fuel : Nat) (cs : List Value) (x : DataW H × List MemPlace),
    DataW.trod enc P w base spare held fuel t cs = some x → Rows.uptoBulk x.1 ≤ 1048576 → ∃ d, L.cells w d cs

theorem add_off (b o n : Nat) : (⟨b, o, none⟩ : Addr).add n = ⟨b, o + n, none⟩ := by
  unfold Addr.add
  split
  · rename_i h; subst h; rfl
  · rfl

theorem rows_of {D : Type} {L : Lay D} {w : World} {a : Addr} {len : Nat} (h : ∀ i, i < len → ∃ d cs, L.cells w d cs ∧ ∀ j u, cs[j]? = some u → w.cell? ((a.add (i * L.sz)).add j) = some u) :
    ∀ k, k ≤ len → ∃ l : List D, l.length = k ∧ ∀ i d, l[i]? = some d → ∃ cs, L.cells w d cs ∧ ∀ j u, cs[j]? = some u → w.cell? ((a.add (i * L.sz)).add j) = some u
  | 0, _ => ⟨[], rfl, fun i d hi => by simp at hi⟩
  | k + 1, hk => by
    obtain ⟨l, hl, hall⟩ := rows_of h k (by omega)
    obtain ⟨d, cs, hc, hcell⟩ := h k (by omega)
    refine ⟨l ++ [d], by simp [hl], fun i x hi => ?_⟩
    by_cases hik : i < l.length
    · rw [List.getElem?_append_left hik] at hi
      exact hall i x hi
    · rw [List.getElem?_append_right (by omega)] at hi
      have e1 : i - l.length = 0 := by
        have := (List.getElem?_eq_some_iff.1 hi).1
        simp at this; omega
      rw [e1] at hi
      simp at hi
      subst hi
      obtain rfl : i = k := by omega
      exact ⟨cs, hc, hcell⟩

theorem Opens.slice {D : Type} {P : Program} {L : Lay D} {t e : TypeId} (ht : P.underlying t = some (.slice e)) (hC : P.cellsOf e = L.sz) (hs : 0 < L.sz) (h : Opens P L e) : Opens P (slL L) t := by
  intro H enc w base spare held fuel cs x hx hb
  rcases open_slice ht hx with ⟨rfl, rfl⟩ | ⟨a, len, cap, m, n, D', Pl, rfl, hbb, hl, hm, hmm, rfl, hi⟩
  · exact ⟨[], _, rfl, Sl.nil 0 (by unfold maxLen; omega) none⟩
  · have hm' : len ≤ m := by rw [hmm]; split <;> omega
    have hbA : Rows.uptoBulkAll ((List.range len).map D') ≤ 1048576 := by
      simp only [Rows.uptoBulk] at hb
      omega
    have each : ∀ i, i < len → ∃ d cs, L.cells w d cs ∧ ∀ j u, cs[j]? = some u → w.cell? ((a.add (i * L.sz)).add j) = some u := fun i hil => by
      obtain ⟨cs', hc, ht'⟩ := hi i (by omega)
      rw [hC] at hc
      obtain ⟨_, hcl, hat⟩ := World.cells?_some hc
      have hbi : Rows.uptoBulk (D' i) ≤ 1048576 := by
        have := bulk_part (d := D' i) (l := (List.range len).map D') (List.mem_map.2 ⟨i, List.mem_range.2 hil, rfl⟩)
        omega
      obtain ⟨d, hd⟩ := h H enc w base spare held n cs' _ ht' hbi
      refine ⟨d, cs', hd, fun j u hj => ?_⟩
      have hjl : j < L.sz := by have := (List.getElem?_eq_some_iff.1 hj).1; omega
      rw [hat j hjl, hj]
    by_cases h0 : len = 0
    · subst h0
      exact ⟨[], _, rfl, Sl.nil cap hm (some a)⟩
    · obtain ⟨b, o, spot⟩ := a
      have hspot : spot = none := by
        obtain ⟨d, cs', hd, hcell⟩ := each 0 (by omega)
        have hl0 := L.len hd
        have h1 := hcell 0 _ (List.getElem?_eq_getElem (by omega))
        simpa [Addr.add] using World.cell?_spot h1
      subst hspot
      obtain ⟨l, hll, hall⟩ := rows_of each len (Nat.le_refl _)
      subst hll
      refine ⟨l, _, rfl, _, cap, rfl, hl, hm, fun i d hid => ?_⟩
      obtain ⟨cs', hd, hcell⟩ := hall i d hid
      refine ⟨b, o, cs', rfl, hd, fun j u hj => ?_⟩
      have := hcell j u hj
      rw [add_off, add_off, Nat.add_assoc] at this
      exact this

theorem field_at {H : Type} {enc : TypeId × Value → H} {P : Program} {w : World} {base : Nat} {spare : Nat → Bool} {held : Bool} {t : TypeId} {fs : Array Field} {fuel : Nat} {cs : List Value} {x : DataW H × List MemPlace}
    (ht : P.underlying t = some (.struct fs)) (h : DataW.trod enc P w base spare held fuel t cs = some x) (hb : Rows.uptoBulk x.1 ≤ 1048576) :
    cs.length = P.cellsOf t ∧ ∀ {D : Type} {L : Lay D} (i : Nat) (f : Field) (k : Nat), fs[i]? = some f → P.cellsOf f.type = k → Opens P L f.type → ∃ d, L.cells w d ((cs.drop f.offset).take k) := by
  obtain ⟨xs, n, _, rfl, hl, hxl, hf⟩ := DataW.trod_struct ht h
  refine ⟨hl, fun i f k hi hk ho => ?_⟩
  have h1 := hf i f hi
  have hil : i < xs.length := by have := (Array.getElem?_eq_some_iff.1 hi).1; omega
  obtain ⟨y, hy⟩ : ∃ y, xs[i]? = some y := ⟨_, List.getElem?_eq_getElem hil⟩
  rw [hy, hk] at h1
  refine ho H enc w base spare held n _ y h1 ?_
  have := bulk_part (d := y.1) (l := xs.map (·.1)) (List.mem_map.2 ⟨y, List.mem_of_getElem? hy, rfl⟩)
  simp only [Rows.uptoBulk] at hb
  omega

theorem opens_int {P : Program} {t : TypeId} (ht : P.underlying t = some (.int .i64)) : Opens P intL t := by
  intro H enc w base spare held fuel cs x hx hb
  obtain ⟨n, rfl, rfl, hw⟩ := DataW.trod_int ht hx
  refine ⟨n, rfl, ?_⟩
  have e1 : IntKind.i64.min = -9223372036854775808 := rfl
  have e2 : IntKind.i64.max = 9223372036854775807 := rfl
  simp [Lit.wf, e1, e2] at hw
  exact hw
theorem opens_str {P : Program} {t : TypeId} (ht : P.underlying t = some .string) : Opens P strL t := by
  intro H enc w base spare held fuel cs x hx hb
  obtain ⟨s, rfl, rfl, hw⟩ := DataW.trod_string ht hx
  refine ⟨s, rfl, ?_⟩
  simp only [Rows.uptoBulk, Array.length_toList] at hb
  show s.data.size ≤ 1048576
  omega
open Go Go.RowKit Go.Deep Go.ChangeShapes Go.WideShapes

theorem oInt : Opens Tryz.prog intL 3 := opens_int Tryz.underlying3
theorem oStr : Opens Tryz.prog strL 9 := opens_str Tryz.underlying9
theorem o_val : Opens Tryz.prog valL 43 := by
  intro H enc w base spare held fuel cs x hx hb
  obtain ⟨hl, hf⟩ := field_at Tryz.underlying43 hx hb
  rw [show Tryz.prog.cellsOf 43 = 3 from by kernel_rfl] at hl
  match cs, hl with
  | [c0, c1, c2], _ =>
    obtain ⟨a0, e0, h0⟩ := hf (L := intL) 0 _ 1 rfl (by kernel_rfl) oInt
    have e0 : [c0] = [.int .i64 a0] := e0
    injection e0 with e0 _
    subst e0
    obtain ⟨a1, e1, h1⟩ := hf (L := intL) 1 _ 1 rfl (by kernel_rfl) oInt
    have e1 : [c1] = [.int .i64 a1] := e1
    injection e1 with e1 _
    subst e1
    obtain ⟨a2, e2, h2⟩ := hf (L := strL) 2 _ 1 rfl (by kernel_rfl) oStr
    have e2 : [c2] = [.string a2] := e2
    injection e2 with e2 _
    subst e2
    exact ⟨⟨a0, a1, a2⟩, rfl, h0, h1, h2⟩
theorem o_prp : Opens Tryz.prog prpL 62 := by
  intro H enc w base spare held fuel cs x hx hb
  obtain ⟨hl, hf⟩ := field_at Tryz.underlying62 hx hb
  rw [show Tryz.prog.cellsOf 62 = 4 from by kernel_rfl] at hl
  match cs, hl with
  | [c0, c1, c2, c3], _ =>
    obtain ⟨a0, e0, h0⟩ := hf (L := strL) 0 _ 1 rfl (by kernel_rfl) oStr
    have e0 : [c0] = [.string a0] := e0
    injection e0 with e0 _
    subst e0
    obtain ⟨v, e1, h1⟩ := hf (L := valL) 1 _ 3 rfl (by kernel_rfl) o_val
    have e1 : [c1, c2, c3] = [.int .i64 v.ty, .int .i64 v.n, .string v.s] := e1
    injection e1 with e1 e2
    injection e2 with e2 e3
    injection e3 with e3 _
    subst e1; subst e2; subst e3
    exact ⟨⟨a0, v⟩, rfl, h0, h1⟩
theorem o_rec : Opens Tryz.prog (slL prpL) 60 := Opens.slice Tryz.underlying60 (by kernel_rfl) (by decide) o_prp
/-! ### Arguments -/
/-- A one-cell argument. -/
theorem arg_one {D : Type} {L : Lay D} {t : TypeId} {H : Type} {enc : TypeId × Value → H} {w : World} {base : Nat} {spare : Nat → Bool} {held : Bool} {v : Value} {d : DataW H} {p : List MemPlace}
    (ho : Opens Tryz.prog L t) (h : DataW.Trod enc Tryz.prog w base spare held t v d p) (hb : Rows.uptoBulk d ≤ 1048576) : ∃ x, L.cells w x v.cells.toList := by
  obtain ⟨fuel, hf⟩ := h
  exact ho H enc w base spare held fuel _ _ hf hb

set_option maxRecDepth 100000 in
theorem arg_str {H : Type} {enc : TypeId × Value → H} {w : World} {base b0 : Nat} {r : Reach} {spare : Nat → Bool} {held : Bool} {v : Value} {d : DataW H} {p : List MemPlace}
    (hv : Value.okWide Tryz.prog w r b0 9 v) (h : DataW.Trod enc Tryz.prog w base spare held 9 v d p) (hb : Rows.uptoBulk d ≤ 1048576) : ∃ s, v = .string s ∧ Sm s := by
  obtain ⟨s, rfl, rfl, _, _⟩ := ChangeMaps.open_string Tryz.underlying9 hv h
  refine ⟨s, rfl, ?_⟩
  have hb' : s.data.toList.length + 1 ≤ 1048576 := hb
  clear hb
  unfold Sm
  have : s.data.toList.length = s.size := Array.length_toList
  omega
set_option maxRecDepth 100000 in
theorem arg_sl {D : Type} {L : Lay D} {t e : TypeId} {H : Type} {enc : TypeId × Value → H} {w : World} {base b0 : Nat} {r : Reach} {spare : Nat → Bool} {held : Bool} {v : Value} {d : DataW H} {p : List MemPlace}
    (ht : Tryz.prog.underlying t = some (.slice e)) (ho : Opens Tryz.prog (slL L) t) (hv : Value.okWide Tryz.prog w r b0 t v) (h : DataW.Trod enc Tryz.prog w base spare held t v d p) (hb : Rows.uptoBulk d ≤ 1048576) : ∃ l, Sl L w v l := by
  obtain ⟨l, v', e1, h1⟩ := arg_one ho h hb
  obtain ⟨a, n, c, rfl⟩ := okWide_slice ht hv
  simp only [Value.cells, List.cons.injEq, and_true] at e1
  subst e1
  exact ⟨l, h1⟩

set_option maxRecDepth 100000 in
theorem arg_prop {H : Type} {enc : TypeId × Value → H} {w : World} {base b0 : Nat} {r : Reach} {spare : Nat → Bool} {held : Bool} {v : Value} {d : DataW H} {p : List MemPlace}
    (hv : Value.okWide Tryz.prog w r b0 62 v) (h : DataW.Trod enc Tryz.prog w base spare held 62 v d p) (hb : Rows.uptoBulk d ≤ 1048576) :
    ∃ n : Prp, v = .agg #[.string n.name, .int .i64 n.v.ty, .int .i64 n.v.n, .string n.v.s] ∧ n.ok := by
  obtain ⟨n, e, h1⟩ := arg_one o_prp h hb
  obtain ⟨cs, rfl, _⟩ := okWide_struct Tryz.underlying62 hv
  have e' : cs.toList = #[.string n.name, .int .i64 n.v.ty, .int .i64 n.v.n, .string n.v.s].toList := e
  exact ⟨n, by rw [Array.toList_inj.1 e'], h1⟩
open Go Go.ChangeShapes Go.RowKit
section
variable {H : Type} {enc : TypeId × Value → H} {P : Program} {w : World} {base : Nat} {spare : Nat → Bool} {held : Bool}
theorem trodAll_five {t1 t2 t3 t4 t5 : TypeId} {args : Array Value} {ds : List (DataW H)} {ps : List MemPlace} (h : DataW.TrodAll enc P w base spare held [t1, t2, t3, t4, t5] args.toList ds ps) :
    ∃ v1 v2 v3 v4 v5 d1 d2 d3 d4 d5 p1 p2 p3 p4 p5, args = #[v1, v2, v3, v4, v5] ∧ ds = [d1, d2, d3, d4, d5] ∧ ps = p1 ++ p2 ++ p3 ++ p4 ++ p5 ∧ DataW.Trod enc P w base spare held t1 v1 d1 p1 ∧ DataW.Trod enc P w base spare held t2 v2 d2 p2 ∧ DataW.Trod enc P w base spare held t3 v3 d3 p3 ∧ DataW.Trod enc P w base spare held t4 v4 d4 p4 ∧ DataW.Trod enc P w base spare held t5 v5 d5 p5 := by
  obtain ⟨a1, b1, c1, e1, f1, g1, k1, rfl, rfl, m1, n1⟩ := trodAll_cons h
  obtain ⟨a2, b2, c2, e2, f2, g2, rfl, rfl, rfl, m2, n2⟩ := trodAll_cons n1
  obtain ⟨a3, b3, c3, e3, f3, g3, rfl, rfl, rfl, m3, n3⟩ := trodAll_cons n2
  obtain ⟨a4, b4, c4, e4, f4, g4, rfl, rfl, rfl, m4, n4⟩ := trodAll_cons n3
  obtain ⟨a5, b5, c5, e5, f5, g5, rfl, rfl, rfl, m5, n5⟩ := trodAll_cons n4
  obtain ⟨rfl, rfl, rfl⟩ := trodAll_nil n5
  exact ⟨a1, a2, a3, a4, a5, c1, c2, c3, c4, c5, f1, f2, f3, f4, f5, by cases args; simp_all, rfl, by simp, m1, m2, m3, m4, m5⟩
theorem trodAll_mk5 {t1 t2 t3 t4 t5 : TypeId} {v1 v2 v3 v4 v5 : Value} {d1 d2 d3 d4 d5 : DataW H} {p1 p2 p3 p4 p5 : List MemPlace} (h1 : DataW.Trod enc P w base spare held t1 v1 d1 p1) (h2 : DataW.Trod enc P w base spare held t2 v2 d2 p2)
    (h3 : DataW.Trod enc P w base spare held t3 v3 d3 p3) (h4 : DataW.Trod enc P w base spare held t4 v4 d4 p4) (h5 : DataW.Trod enc P w base spare held t5 v5 d5 p5) :
    DataW.TrodAll enc P w base spare held [t1, t2, t3, t4, t5] [v1, v2, v3, v4, v5] [d1, d2, d3, d4, d5] (p1 ++ (p2 ++ (p3 ++ (p4 ++ p5)))) := ⟨p1, p2 ++ (p3 ++ (p4 ++ p5)), h1, trodAll_mk4 h2 h3 h4 h5, rfl⟩
end
open Go

def laidOne : DataW Unit → Value
  | .lit (.int k z) => .int k z
  | .lit (.string b) => .string ⟨b.toArray⟩
  | _ => .int .i64 0
def laidTwo : DataW Unit → List Value
  | .agg ds => ds.map laidOne
  | d => [laidOne d]
def laidCells : DataW Unit → List Value
  | .agg ds => ds.flatMap laidTwo
  | d => [laidOne d]
/-- A row of heap objects, one variable's cells laid. -/
def layVar (h : Array Obj) (g : Nat) (d : DataW Unit) : Array Obj := h.modify g fun
  | .cells _ t frozen => .cells (laidCells d).toArray t frozen
  | o => o
/-- The same: a variable that holds an error, whose text lies in block b. -/
def layErr (h : Array Obj) (g t b : Nat) : Array Obj := h.modify g fun
  | .cells _ u frozen => .cells #[.iface t (.pointer (some ⟨b, 0, none⟩))] u frozen
  | o => o
/-- The same: a variable that holds one value. -/
def layVal (h : Array Obj) (g : Nat) (v : Value) : Array Obj := h.modify g fun
  | .cells _ u frozen => .cells #[v] u frozen
  | o => o

theorem tab_of_reads {w : World} (h : Lib.VarReads Tryz.prog w "internal/strconv.uint64pow10" Rows.laid_internal_strconv_uint64pow10) : Lib.TabIs Tryz.prog w "internal/strconv.uint64pow10" .u64 Lib.pow10Tab := by
  obtain ⟨g, t, cs, fuel, p, h1, h2, h3, h4⟩ := h
  obtain rfl := Option.some.inj ((show Tryz.prog.globalNamed "internal/strconv.uint64pow10" = some 5 by kernel_rfl).symm.trans h1)
  obtain rfl := Option.some.inj ((show (Tryz.prog.globals[5]?).map (·.type) = some 277 by kernel_rfl).symm.trans h2)
  have e := Lib.cells_of_tab (zs := Lib.pow10Tab) Tryz.underlying277 Tryz.underlying241 (by kernel_rfl) (by kernel_rfl) h4
  unfold Lib.TabIs
  rw [h3, ← e]
theorem len_of_shaped {w : World} (h : w.ShapedOpen Tryz.prog) : ∃ m, w.cell? ⟨4, 0, none⟩ = some (.int .i64 m) :=
  cell_of_shapedOpen_int (zero := #[.int .i64 0]) (t := 3) h (of_decide_eq_true (by kernel_rfl)) (by kernel_rfl) rfl (by kernel_rfl) (by kernel_rfl) Tryz.underlying3
theorem txp_of {w : World} {l : List (String × DataW Unit)} (h : laidMet Tryz.prog l w) (hs : w.ShapedOpen Tryz.prog) (h1 : ("internal/strconv.uint64pow10", Rows.laid_internal_strconv_uint64pow10) ∈ l) : TxP w :=
  ⟨len_of_shaped hs, tab_of_reads (Lib.laidMet.reads h h1)⟩
theorem iface_of_reads {w : World} {n nm : String} {g : Nat} {d : DataW Unit} (hg : Tryz.prog.globalNamed n = some g) (ht : (Tryz.prog.globals[g]?).map (·.type) = some 27) (h : Lib.VarReads Tryz.prog w n (.iface nm d)) : ∃ tp p, w.var? Tryz.prog n = some #[.iface tp p] := by
  obtain ⟨g', t, cs, fuel, p, h1, h2, h3, h4⟩ := h
  obtain rfl := Option.some.inj (hg.symm.trans h1)
  obtain rfl := Option.some.inj (ht.symm.trans h2)
  obtain ⟨_, u, v, e, _⟩ := iface_of_trod Tryz.underlying27 h4
  have e2 : cs = #[.iface u v] := by cases cs; simpa using e
  exact ⟨u, v, by rw [h3, e2]⟩
theorem txok_of {w : World} {l : List (String × DataW Unit)} (h : laidMet Tryz.prog l w) (hs : w.ShapedOpen Tryz.prog) (h1 : ("internal/strconv.uint64pow10", Rows.laid_internal_strconv_uint64pow10) ∈ l) (h2 : ("strconv.ErrSyntax", Rows.laid_strconv_ErrSyntax) ∈ l) (h3 : ("strconv.ErrRange", Rows.laid_strconv_ErrRange) ∈ l) : TxOk w where
  toTxP := txp_of h hs h1
  sy := iface_of_reads (g := 2) (by kernel_rfl) (by kernel_rfl) (Lib.laidMet.reads h h2)
  ra := iface_of_reads (g := 3) (by kernel_rfl) (by kernel_rfl) (Lib.laidMet.reads h h3)
end Go.Proofs.YtdmpkgiijddcdaaGreatDoor
