/- Parts: Told, TTel, OpenA, OpenB, OpenC, LaidW, TxG. -/
import Derived.Test.YtflidfmpmakggaaGreatDoorMg23
import Derived.Test.YtflidfmpmakggaaGreatDoorMg12
import Derived.Test.YtflidfmpmakggaaGreatDoorMg21
import Derived.Test.YtflidfmpmakggaaGreatDoorMg11
import Derived.Test.YtflidfmpmakggaaGreatDoorMg10
import Derived.Test.YtflidfmpmakggaaGreatDoorMg20
import Derived.Deep.DeepCutAuto
import Derived.Test.YtflidfmpmakggaaGreatDoorMg01
import Derived.Test.YtflidfmpmakggaaGreatDoorRows
import Derived.Deep.Slices
import Derived.Lib.SmallJoins
import Derived.JoinedCond
import Derived.Carry
import Derived.ChangeMaps5
import Derived.Lib.LaidU8
import Derived.LaidHandle
import Derived.MakeChecks
import Derived.Test.YtflidfmpmakggaaGreatDoorMg07
import Derived.LaidLaws
import Derived.Lib.LaidTab
import Derived.Shelf.Vars
/- Contracts: plain.Told, kinsame.Error. Conditions: the library's variable holds the handle of the type error. -/
namespace Go.Proofs.YtflidfmpmakggaaGreatDoor
open Go Go.RowKit

/-- The library's variable holds the handle of the type error. -/
def GlobOk (w : World) : Prop := w.cell? ⟨2, 0, none⟩ = some (.iface 279 (.agg #[.pointer (some ⟨11, 29, none⟩)]))
theorem GlobOk.below {w w' : World} (hb : Below w.heap.size w w') (h : GlobOk w) : GlobOk w' := cell_below hb h
theorem below_al {w w' : World} (h : Below w.heap.size w w') (o : Obj) : Below w.heap.size w (w'.alloc o) := h.alloc h.size o
set_option maxHeartbeats 1000000 in
theorem told_any (k : Int) (w : World) (hg : GlobOk w) : Calls Tryz.prog 51 #[errV k] w fun e w' => e = .returned (.int .i64 k) ∧ Below w.heap.size w w' := by
  by_cases hk : k = 0
  · subst hk
    rw [errV_zero rfl]
    go_enter Tryz.func51, Tryz.ntmps51
    go_wp2_with fail
    go_ret
    exact ⟨rfl, Below.refl _ _⟩
  · rw [errV_some hk]
    clear hk
    have hb0 : Below w.heap.size w (w.alloc (.cells #[.int .i64 0] 115)) := (Below.refl _ _).alloc (Nat.le_refl _) _
    have h1 := as_hit k ⟨w.heap.size, 0, none⟩ (.int .i64 0) (w.alloc (.cells #[.int .i64 0] 115)) (hg.below hb0) (by rw [World.cell?_alloc_at _ _ _ _ rfl]; rfl) (by simp)
    clear hg
    go_enter Tryz.func51, Tryz.ntmps51
    go_wp2_with fail
    refine h1.mono ?_
    clear h1
    rintro e w' ⟨rfl, rfl⟩
    go_wp2_with fail
    go_ret
    refine ⟨rfl, ?_⟩
    exact below_al (below_al (below_al (below_al (below_al (Below.refl _ _) _) _) _) _) _
theorem same_any (k n : Int) (w : World) (hg : GlobOk w) : Calls Tryz.prog 10 #[errV k, .int .i64 n] w fun e w' => e = .returned (.bool (k == n)) ∧ Below w.heap.size w w' := by
  have h1 := told_any k w hg
  generalize errV k = v at *
  clear hg
  go_enter Tryz.func10, Tryz.ntmps10
  go_wp2_with fail
  refine h1.mono ?_
  clear h1
  rintro e w' ⟨rfl, hb⟩
  go_wp2_with fail
  go_ret
  exact ⟨rfl, hb⟩

set_option maxRecDepth 100000 in
set_option maxHeartbeats 16000000 in
theorem textTells_any (g : Grf) (s : ByteArray) (vk vb : Value) (w : World) (hT : TxOk w) (hgl : GlobOk w) (hg : GrfR w vk vb g) (hs : Sm s) :
    Calls Tryz.prog 3 #[.agg #[vk, vb], .string s] w fun e w' => e = .returned (.bool true) ∧ Below w.heap.size w w' := by
  obtain ⟨A1, c1, rfl, _, _⟩ := hg.1.form
  obtain ⟨A2, c2, rfl, _, _⟩ := hg.2.form
  have hb0 : Below w.heap.size w (w.alloc (.cells #[.slice A1 g.nodes.length c1, .slice A2 g.ties.length c2] 25)) := (Below.refl _ _).alloc (Nat.le_refl _) _
  obtain ⟨x0, x1⟩ := cell_box2 w (.slice A1 g.nodes.length c1) (.slice A2 g.ties.length c2) 25
  have HG := Lib.hid (hg.below hb0)
  have HT := Lib.hid hT
  have HL := Lib.hid hgl
  have H1 := Lib.hid (fun wx h => rgraph_any g (.slice A1 g.nodes.length c1) (.slice A2 g.ties.length c2) wx h)
  have H2 := Lib.hid (fun h0 wx h => rgraphText_any g (.slice A1 g.nodes.length c1) (.slice A2 g.ties.length c2) wx h h0)
  have H3 := Lib.hid (fun wx h1 h2 => tprint_any g (.slice A1 g.nodes.length c1) (.slice A2 g.ties.length c2) wx h1 h2)
  have H4 := Lib.hid (fun k wx h => same_any k k wx h)
  have H5 := Lib.hid (fun wx => rreadGraph_any s hs wx)
  have H6 := Lib.hid (fun wx h => tparse_any s hs wx h)
  generalize readTV s.data.toList = RV at *
  generalize readTE s.data.toList = RE at *
  generalize readTN s.data.toList = RN at *
  clear hg hT hgl hs
  go_enter Tryz.func3, Tryz.ntmps3
  go_upto_region 1 with fail
  generalize w.alloc (.cells #[.slice A1 g.nodes.length c1, .slice A2 g.ties.length c2] 25) = W0 at *
  have X0 := Lib.hid x0
  have X1 := Lib.hid x1
  have hx := H1.out W0 HG.out
  go_wp2_with fail
  refine hx.mono ?_
  clear hx x0 x1 H1
  rintro e w1 ⟨rfl, hb⟩
  generalize hea : grfE g = ea at *
  clear hea
  go_upto_if 19 with fail
  go_cut [6] (fun v wx => v = .string (bs (if ea = 0 then grfT g else [])) ∧ Below W0.heap.size W0 wx)
  case first =>
    by_cases h0 : ea = 0
    · have h0b : (ea == 0) = true := by simpa using h0
      have HE : Hid (bs (if ea = 0 then grfT g else []) = bs (grfT g)) := by unfold Hid; rw [if_pos h0]
      have hx := H2.out h0 w1 (HG.out.below hb)
      have x0 := cell_below hb X0.out
      have x1 := cell_below hb X1.out
      subst h0
      go_wp2_with fail
      refine hx.mono ?_
      clear hx
      rintro e w2 ⟨rfl, hb2⟩
      go_wp2_with fail
      go_meet
      exact ⟨by rw [HE.out], hb.trans (hb2.mono hb.size)⟩
    · have h0b : (ea == 0) = false := by simpa using h0
      have HE : Hid (bs (if ea = 0 then grfT g else []) = bs []) := by unfold Hid; rw [if_neg h0]
      clear h0
      go_wp2_with fail
      go_meet
      exact ⟨by rw [HE.out]; rfl, hb⟩
  case rest =>
  obtain ⟨w3, hw3⟩ : ∃ x : World, x = wc := ⟨_, rfl⟩
  subst hw3
  clear hb H2
  obtain ⟨rfl, hb⟩ := hcut
  have hB := hb0.trans (hb.mono hb0.size)
  have x0 := cell_below hb X0.out
  have x1 := cell_below hb X1.out
  have hx := H3.out w3 (HT.out.below hB).toTxP (HG.out.below hb)
  generalize bs (if ea = 0 then grfT g else []) = want at *
  clear H3 X0 X1 HG
  -- one call is done: its contract hx; the new world w4
  go_wp2_with fail
  refine hx.mono ?_
  clear hx
  rintro e w4 ⟨rfl, hbx⟩
  have hB := hB.trans (hbx.mono hB.size)
  clear x0 x1 hb hbx
  have hx := H4.out ea w4 (HL.out.below hB)
  rw [beq_self_eq_true] at hx
  -- one call is done: its contract hx; the new world w5
  go_wp2_with fail
  refine hx.mono ?_
  clear hx
  rintro e w5 ⟨rfl, hbx⟩
  have hB := hB.trans (hbx.mono hB.size)
  clear hbx
  have hx := H5.out w5
  go_wp2_with fail
  refine hx.mono ?_
  clear hx H5
  rintro e w6 ⟨vn, vt, rfl, hg6, hbx⟩
  have hB := hB.trans (hbx.mono hB.size)
  clear hbx
  obtain ⟨A6, c6, rfl, _, _⟩ := hg6.1.form
  obtain ⟨A7, c7, rfl, _, _⟩ := hg6.2.form
  have ha := (Below.refl w6.heap.size w6).alloc (Nat.le_refl _) (.cells #[.slice A6 RV.nodes.length c6, .slice A7 RV.ties.length c7] 25)
  obtain ⟨z0, z1⟩ := cell_box2 w6 (.slice A6 RV.nodes.length c6) (.slice A7 RV.ties.length c7) 25
  have HX := Lib.hid (hg6.below ha)
  have hB := hB.trans (ha.mono hB.size)
  have Z0 := Lib.hid z0
  have Z1 := Lib.hid z1
  clear ha hg6
  go_upto_region 8 with fail
  clear z0 z1
  generalize w6.alloc (.cells #[.slice A6 RV.nodes.length c6, .slice A7 RV.ties.length c7] 25) = w7 at *
  generalize w6.heap.size = q1 at *
  have hx := H6.out w7 (HT.out.below hB)
  go_wp2_with fail
  refine hx.mono ?_
  clear hx H6
  rintro e w8 ⟨vn, vt, rfl, hg8, hbx⟩
  have hB := hB.trans (hbx.mono hB.size)
  obtain ⟨A8, c8, rfl, _, _⟩ := hg8.1.form
  obtain ⟨A9, c9, rfl, _, _⟩ := hg8.2.form
  have ha := (Below.refl w8.heap.size w8).alloc (Nat.le_refl _) (.cells #[.slice A8 RV.nodes.length c8, .slice A9 RV.ties.length c9] 25)
  obtain ⟨u0, u1⟩ := cell_box2 w8 (.slice A8 RV.nodes.length c8) (.slice A9 RV.ties.length c9) 25
  have hbx := hbx.trans (ha.mono hbx.size)
  have HX := Lib.hid (HX.out.below hbx)
  have Z0 := Lib.hid (cell_below hbx Z0.out)
  have Z1 := Lib.hid (cell_below hbx Z1.out)
  have HY := Lib.hid (hg8.below ha)
  have hB := hB.trans (ha.mono hB.size)
  have U0 := Lib.hid u0
  have U1 := Lib.hid u1
  clear ha hbx hg8
  go_upto_region 9 with fail
  clear u0 u1
  generalize w8.alloc (.cells #[.slice A8 RV.nodes.length c8, .slice A9 RV.ties.length c9] 25) = w9 at *
  generalize w8.heap.size = q2 at *
  have hx := H4.out RE w9 (HL.out.below hB)
  rw [beq_self_eq_true] at hx
  -- one call is done: its contract hx; the new world w10
  go_wp2_with fail
  refine hx.mono ?_
  clear hx
  rintro e w10 ⟨rfl, hbx⟩
  have hB := hB.trans (hbx.mono hB.size)
  have z0 := cell_below hbx Z0.out
  have z1 := cell_below hbx Z1.out
  have u0 := cell_below hbx U0.out
  have u1 := cell_below hbx U1.out
  have hx := sgraph_any RV RV (.slice A8 RV.nodes.length c8) (.slice A9 RV.ties.length c9) (.slice A6 RV.nodes.length c6) (.slice A7 RV.ties.length c7) w10 (HY.out.below hbx) (HX.out.below hbx)
  simp only [decide_true] at hx
  clear Z0 Z1 U0 U1 HX HY hbx
  -- one call is done: its contract hx; the new world w11
  go_wp2_with fail
  refine hx.mono ?_
  clear hx
  rintro e w11 ⟨rfl, hbx⟩
  have hB := hB.trans (hbx.mono hB.size)
  clear z0 z1 u0 u1 hbx
  have hww : (want.toList == want.toList) = true := by simp
  go_wp2_with fail
  go_ret
  exact ⟨rfl, hB⟩
open Go Go.RowKit Go.Deep Go.ChangeShapes Go.WideShapes Go.Joins

/-! ### Bulk -/
section
variable {H : Type}
theorem bulk_part {d : DataW H} {l : List (DataW H)} (h : d ∈ l) : Rows.uptoBulk d ≤ Rows.uptoBulkAll l := by
  induction l with
  | nil => cases h
  | cons x r ih =>
    simp only [Rows.uptoBulkAll]
    cases List.mem_cons.1 h with
    | inl e => subst e; omega
    | inr e => have := ih e; omega
theorem bulk_small {ds : List (DataW H)} (hk : Rows.uptoSmall H ds = true) {d : DataW H} (h : d ∈ ds) : Rows.uptoBulk d ≤ 1048576 := by
  have h1 : Rows.uptoBulkAll ds ≤ 1048576 := of_decide_eq_true hk
  have := bulk_part h
  omega
end

/-- Data of type t lie as L says. -/
def Opens {D : Type} (P : Program) (L : Lay D) (t : TypeId) : Prop :=
  ∀ (H : Type) (enc : TypeId × Value → H) (w : World) (base : Nat) (spare : Nat → Bool) (held : Bool) (fuel : Nat) (cs : List Value) (x : DataW H × List MemPlace),
    DataW.trod enc P w base spare held fuel t cs = some x → Rows.uptoBulk x.1 ≤ 1048576 → ∃ d, L.cells w d cs

theorem add_off (b o n : Nat) : (⟨b, o, none⟩ : Addr).add n = ⟨b, o + n, none⟩ := by
  unfold Addr.add
  split
  · rename_i h; subst h; rfl
  · rfl

theorem rows_of {D : Type} {L : Lay D} {w : World} {a : Addr} {len : Nat} (h : ∀ i, i < len → ∃ d cs, L.cells w d cs ∧ ∀ j u, cs[j]? = some u → w.cell? ((a.add (i * L.sz)).add j) = some u) :
    ∀ k, k ≤ len → ∃ l : List D, l.length = k ∧ ∀ i d, l[i]? = some d → ∃ cs, L.cells w d cs ∧ ∀ j u, cs[j]? = some u → w.cell? ((a.add (i * L.sz)).add j) = some u
  | 0, _ => ⟨[], rfl, fun i d hi => by simp at hi⟩
  | k + 1, hk => by
    obtain ⟨l, hl, hall⟩ := rows_of h k (by omega)
    obtain ⟨d, cs, hc, hcell⟩ := h k (by omega)
    refine ⟨l ++ [d], by simp [hl], fun i x hi => ?_⟩
    by_cases hik : i < l.length
    · rw [List.getElem?_append_left hik] at hi
      exact hall i x hi
    · rw [List.getElem?_append_right (by omega)] at hi
      have e1 : i - l.length = 0 := by
        have := (List.getElem?_eq_some_iff.1 hi).1
        simp at this; omega
      rw [e1] at hi
      simp at hi
      subst hi
      obtain rfl : i = k := by omega
      exact ⟨cs, hc, hcell⟩

theorem Opens.slice {D : Type} {P : Program} {L : Lay D} {t e : TypeId} (ht : P.underlying t = some (.slice e)) (hC : P.cellsOf e = L.sz) (hs : 0 < L.sz) (h : Opens P L e) : Opens P (slL L) t := by
  intro H enc w base spare held fuel cs x hx hb
  rcases open_slice ht hx with ⟨rfl, rfl⟩ | ⟨a, len, cap, m, n, D', Pl, rfl, hbb, hl, hm, hmm, rfl, hi⟩
  · exact ⟨[], _, rfl, Sl.nil 0 (by unfold maxLen; omega) none⟩
  · have hm' : len ≤ m := by rw [hmm]; split <;> omega
    have hbA : Rows.uptoBulkAll ((List.range len).map D') ≤ 1048576 := by
      simp only [Rows.uptoBulk] at hb
      omega
    have each : ∀ i, i < len → ∃ d cs, L.cells w d cs ∧ ∀ j u, cs[j]? = some u → w.cell? ((a.add (i * L.sz)).add j) = some u := fun i hil => by
      obtain ⟨cs', hc, ht'⟩ := hi i (by omega)
      rw [hC] at hc
      obtain ⟨_, hcl, hat⟩ := World.cells?_some hc
      have hbi : Rows.uptoBulk (D' i) ≤ 1048576 := by
        have := bulk_part (d := D' i) (l := (List.range len).map D') (List.mem_map.2 ⟨i, List.mem_range.2 hil, rfl⟩)
        omega
      obtain ⟨d, hd⟩ := h H enc w base spare held n cs' _ ht' hbi
      refine ⟨d, cs', hd, fun j u hj => ?_⟩
      have hjl : j < L.sz := by have := (List.getElem?_eq_some_iff.1 hj).1; omega
      rw [hat j hjl, hj]
    by_cases h0 : len = 0
    · subst h0
      exact ⟨[], _, rfl, Sl.nil cap hm (some a)⟩
    · obtain ⟨b, o, spot⟩ := a
      have hspot : spot = none := by
        obtain ⟨d, cs', hd, hcell⟩ := each 0 (by omega)
        have hl0 := L.len hd
        have h1 := hcell 0 _ (List.getElem?_eq_getElem (by omega))
        simpa [Addr.add] using World.cell?_spot h1
      subst hspot
      obtain ⟨l, hll, hall⟩ := rows_of each len (Nat.le_refl _)
      subst hll
      refine ⟨l, _, rfl, _, cap, rfl, hl, hm, fun i d hid => ?_⟩
      obtain ⟨cs', hd, hcell⟩ := hall i d hid
      refine ⟨b, o, cs', rfl, hd, fun j u hj => ?_⟩
      have := hcell j u hj
      rw [add_off, add_off, Nat.add_assoc] at this
      exact this

theorem field_at {H : Type} {enc : TypeId × Value → H} {P : Program} {w : World} {base : Nat} {spare : Nat → Bool} {held : Bool} {t : TypeId} {fs : Array Field} {fuel : Nat} {cs : List Value} {x : DataW H × List MemPlace}
    (ht : P.underlying t = some (.struct fs)) (h : DataW.trod enc P w base spare held fuel t cs = some x) (hb : Rows.uptoBulk x.1 ≤ 1048576) :
    cs.length = P.cellsOf t ∧ ∀ {D : Type} {L : Lay D} (i : Nat) (f : Field) (k : Nat), fs[i]? = some f → P.cellsOf f.type = k → Opens P L f.type → ∃ d, L.cells w d ((cs.drop f.offset).take k) := by
  obtain ⟨xs, n, _, rfl, hl, hxl, hf⟩ := DataW.trod_struct ht h
  refine ⟨hl, fun i f k hi hk ho => ?_⟩
  have h1 := hf i f hi
  have hil : i < xs.length := by have := (Array.getElem?_eq_some_iff.1 hi).1; omega
  obtain ⟨y, hy⟩ : ∃ y, xs[i]? = some y := ⟨_, List.getElem?_eq_getElem hil⟩
  rw [hy, hk] at h1
  refine ho H enc w base spare held n _ y h1 ?_
  have := bulk_part (d := y.1) (l := xs.map (·.1)) (List.mem_map.2 ⟨y, List.mem_of_getElem? hy, rfl⟩)
  simp only [Rows.uptoBulk] at hb
  omega

theorem opens_int {P : Program} {t : TypeId} (ht : P.underlying t = some (.int .i64)) : Opens P intL t := by
  intro H enc w base spare held fuel cs x hx hb
  obtain ⟨n, rfl, rfl, hw⟩ := DataW.trod_int ht hx
  refine ⟨n, rfl, ?_⟩
  have e1 : IntKind.i64.min = -9223372036854775808 := rfl
  have e2 : IntKind.i64.max = 9223372036854775807 := rfl
  simp [Lit.wf, e1, e2] at hw
  exact hw
theorem opens_str {P : Program} {t : TypeId} (ht : P.underlying t = some .string) : Opens P strL t := by
  intro H enc w base spare held fuel cs x hx hb
  obtain ⟨s, rfl, rfl, hw⟩ := DataW.trod_string ht hx
  refine ⟨s, rfl, ?_⟩
  simp only [Rows.uptoBulk, Array.length_toList] at hb
  show s.data.size ≤ 1048576
  omega
open Go Go.RowKit Go.Deep Go.ChangeShapes Go.WideShapes

theorem oInt : Opens Tryz.prog intL 3 := opens_int Tryz.underlying3
theorem oStr : Opens Tryz.prog strL 9 := opens_str Tryz.underlying9
theorem o_val : Opens Tryz.prog valL 70 := by
  intro H enc w base spare held fuel cs x hx hb
  obtain ⟨hl, hf⟩ := field_at Tryz.underlying70 hx hb
  rw [show Tryz.prog.cellsOf 70 = 3 from by kernel_rfl] at hl
  match cs, hl with
  | [c0, c1, c2], _ =>
    obtain ⟨a0, e0, h0⟩ := hf (L := intL) 0 _ 1 rfl (by kernel_rfl) oInt
    have e0 : [c0] = [.int .i64 a0] := e0
    injection e0 with e0 _
    subst e0
    obtain ⟨a1, e1, h1⟩ := hf (L := intL) 1 _ 1 rfl (by kernel_rfl) oInt
    have e1 : [c1] = [.int .i64 a1] := e1
    injection e1 with e1 _
    subst e1
    obtain ⟨a2, e2, h2⟩ := hf (L := strL) 2 _ 1 rfl (by kernel_rfl) oStr
    have e2 : [c2] = [.string a2] := e2
    injection e2 with e2 _
    subst e2
    exact ⟨⟨a0, a1, a2⟩, rfl, h0, h1, h2⟩
theorem o_prp : Opens Tryz.prog prpL 181 := by
  intro H enc w base spare held fuel cs x hx hb
  obtain ⟨hl, hf⟩ := field_at Tryz.underlying181 hx hb
  rw [show Tryz.prog.cellsOf 181 = 4 from by kernel_rfl] at hl
  match cs, hl with
  | [c0, c1, c2, c3], _ =>
    obtain ⟨a0, e0, h0⟩ := hf (L := strL) 0 _ 1 rfl (by kernel_rfl) oStr
    have e0 : [c0] = [.string a0] := e0
    injection e0 with e0 _
    subst e0
    obtain ⟨v, e1, h1⟩ := hf (L := valL) 1 _ 3 rfl (by kernel_rfl) o_val
    have e1 : [c1, c2, c3] = [.int .i64 v.ty, .int .i64 v.n, .string v.s] := e1
    injection e1 with e1 e2
    injection e2 with e2 e3
    injection e3 with e3 _
    subst e1; subst e2; subst e3
    exact ⟨⟨a0, v⟩, rfl, h0, h1⟩
theorem o_tie : Opens Tryz.prog tieL 102 := by
  intro H enc w base spare held fuel cs x hx hb
  obtain ⟨hl, hf⟩ := field_at Tryz.underlying102 hx hb
  rw [show Tryz.prog.cellsOf 102 = 3 from by kernel_rfl] at hl
  match cs, hl with
  | [c0, c1, c2], _ =>
    obtain ⟨a0, e0, h0⟩ := hf (L := strL) 0 _ 1 rfl (by kernel_rfl) oStr
    have e0 : [c0] = [.string a0] := e0
    injection e0 with e0 _
    subst e0
    obtain ⟨a1, e1, h1⟩ := hf (L := intL) 1 _ 1 rfl (by kernel_rfl) oInt
    have e1 : [c1] = [.int .i64 a1] := e1
    injection e1 with e1 _
    subst e1
    obtain ⟨a2, e2, h2⟩ := hf (L := intL) 2 _ 1 rfl (by kernel_rfl) oInt
    have e2 : [c2] = [.int .i64 a2] := e2
    injection e2 with e2 _
    subst e2
    exact ⟨⟨a0, a1, a2⟩, rfl, h0, h1, h2⟩
theorem o_rec : Opens Tryz.prog (slL prpL) 96 := Opens.slice Tryz.underlying96 (by kernel_rfl) (by decide) o_prp
theorem o_ties : Opens Tryz.prog (slL tieL) 23 := Opens.slice Tryz.underlying23 (by kernel_rfl) (by decide) o_tie
theorem o_nod : Opens Tryz.prog nodL 98 := by
  intro H enc w base spare held fuel cs x hx hb
  obtain ⟨hl, hf⟩ := field_at Tryz.underlying98 hx hb
  rw [show Tryz.prog.cellsOf 98 = 3 from by kernel_rfl] at hl
  match cs, hl with
  | [c0, c1, c2], _ =>
    obtain ⟨a0, e0, h0⟩ := hf (L := intL) 0 _ 1 rfl (by kernel_rfl) oInt
    have e0 : [c0] = [.int .i64 a0] := e0
    injection e0 with e0 _
    subst e0
    obtain ⟨a1, e1, h1⟩ := hf (L := strL) 1 _ 1 rfl (by kernel_rfl) oStr
    have e1 : [c1] = [.string a1] := e1
    injection e1 with e1 _
    subst e1
    obtain ⟨a2, v2, e2, h2⟩ := hf (L := slL prpL) 2 _ 1 rfl (by kernel_rfl) o_rec
    have e2 : [c2] = [v2] := e2
    injection e2 with e2 _
    subst e2
    exact ⟨⟨a0, a1, a2⟩, c2, rfl, h0, h1, h2⟩
theorem o_nods : Opens Tryz.prog (slL nodL) 22 := Opens.slice Tryz.underlying22 (by kernel_rfl) (by decide) o_nod
/-! ### Arguments -/
set_option maxRecDepth 100000 in
/-- A struct of two slices. -/
theorem arg_two {D E : Type} {L : Lay D} {M : Lay E} {t : TypeId} {f0 f1 : Field} {H : Type} {enc : TypeId × Value → H} {w : World} {base b0 : Nat} {r : Reach} {spare : Nat → Bool} {held : Bool} {v : Value} {d : DataW H} {p : List MemPlace}
    (hs : Tryz.prog.underlying t = some (.struct #[f0, f1])) (hone : oneCellFields Tryz.prog #[f0, f1] = true) (hC : Tryz.prog.cellsOf t = 2) (h0 : Opens Tryz.prog (slL L) f0.type) (h1 : Opens Tryz.prog (slL M) f1.type)
    (hv : Value.okWide Tryz.prog w r b0 t v) (h : DataW.Trod enc Tryz.prog w base spare held t v d p) (hb : Rows.uptoBulk d ≤ 1048576) : ∃ v0 v1 l m, v = .agg #[v0, v1] ∧ Sl L w v0 l ∧ Sl M w v1 m := by
  obtain ⟨v0, v1, y0, y1, n, rfl, rfl, rfl, g0, g1⟩ := Joins.open_agg2 hs hone hC hv h
  simp only [Rows.uptoBulk, Rows.uptoBulkAll] at hb
  obtain ⟨l, v0', e0, k0⟩ := h0 H enc w base spare held n _ _ g0 (by omega)
  obtain ⟨m, v1', e1, k1⟩ := h1 H enc w base spare held n _ _ g1 (by omega)
  injection e0 with e0 _
  injection e1 with e1 _
  subst e0; subst e1
  exact ⟨v0, v1, l, m, rfl, k0, k1⟩
set_option maxRecDepth 100000 in
theorem arg_graph {H : Type} {enc : TypeId × Value → H} {w : World} {base b0 : Nat} {r : Reach} {spare : Nat → Bool} {held : Bool} {v : Value} {d : DataW H} {p : List MemPlace}
    (hv : Value.okWide Tryz.prog w r b0 25 v) (h : DataW.Trod enc Tryz.prog w base spare held 25 v d p) (hb : Rows.uptoBulk d ≤ 1048576) : ∃ v0 v1 g, v = .agg #[v0, v1] ∧ GrfR w v0 v1 g := by
  obtain ⟨v0, v1, l, m, rfl, h0, h1⟩ := arg_two Tryz.underlying25 (by kernel_rfl) (by kernel_rfl) o_nods o_ties hv h hb
  exact ⟨v0, v1, ⟨l, m⟩, rfl, h0, h1⟩

set_option maxRecDepth 100000 in
theorem arg_str {H : Type} {enc : TypeId × Value → H} {w : World} {base b0 : Nat} {r : Reach} {spare : Nat → Bool} {held : Bool} {v : Value} {d : DataW H} {p : List MemPlace}
    (hv : Value.okWide Tryz.prog w r b0 9 v) (h : DataW.Trod enc Tryz.prog w base spare held 9 v d p) (hb : Rows.uptoBulk d ≤ 1048576) : ∃ s, v = .string s ∧ Sm s := by
  obtain ⟨s, rfl, rfl, _, _⟩ := ChangeMaps.open_string Tryz.underlying9 hv h
  refine ⟨s, rfl, ?_⟩
  have hb' : s.data.toList.length + 1 ≤ 1048576 := hb
  clear hb
  unfold Sm
  have : s.data.toList.length = s.size := Array.length_toList
  omega
open Go

def laidOne : DataW Unit → Value
  | .lit (.int k z) => .int k z
  | .lit (.string b) => .string ⟨b.toArray⟩
  | _ => .int .i64 0
def laidTwo : DataW Unit → List Value
  | .agg ds => ds.map laidOne
  | d => [laidOne d]
def laidCells : DataW Unit → List Value
  | .agg ds => ds.flatMap laidTwo
  | d => [laidOne d]
/-- A row of heap objects, one variable's cells laid. -/
def layVar (h : Array Obj) (g : Nat) (d : DataW Unit) : Array Obj := h.modify g fun
  | .cells _ t frozen => .cells (laidCells d).toArray t frozen
  | o => o
/-- The same: a variable that holds an error, whose text lies in block b. -/
def layErr (h : Array Obj) (g t b : Nat) : Array Obj := h.modify g fun
  | .cells _ u frozen => .cells #[.iface t (.pointer (some ⟨b, 0, none⟩))] u frozen
  | o => o
/-- The same: a variable that holds one value. -/
def layVal (h : Array Obj) (g : Nat) (v : Value) : Array Obj := h.modify g fun
  | .cells _ u frozen => .cells #[v] u frozen
  | o => o

theorem tab_of_reads {w : World} (h : Lib.VarReads Tryz.prog w "internal/strconv.uint64pow10" Rows.laid_internal_strconv_uint64pow10) : Lib.TabIs Tryz.prog w "internal/strconv.uint64pow10" .u64 Lib.pow10Tab := by
  obtain ⟨g, t, cs, fuel, p, h1, h2, h3, h4⟩ := h
  obtain rfl := Option.some.inj ((show Tryz.prog.globalNamed "internal/strconv.uint64pow10" = some 4 by kernel_rfl).symm.trans h1)
  obtain rfl := Option.some.inj ((show (Tryz.prog.globals[4]?).map (·.type) = some 305 by kernel_rfl).symm.trans h2)
  have e := Lib.cells_of_tab (zs := Lib.pow10Tab) Tryz.underlying305 Tryz.underlying273 (by kernel_rfl) (by kernel_rfl) h4
  unfold Lib.TabIs
  rw [h3, ← e]
theorem len_of_shaped {w : World} (h : w.ShapedOpen Tryz.prog) : ∃ m, w.cell? ⟨3, 0, none⟩ = some (.int .i64 m) :=
  cell_of_shapedOpen_int (zero := #[.int .i64 0]) (t := 3) h (of_decide_eq_true (by kernel_rfl)) (by kernel_rfl) rfl (by kernel_rfl) (by kernel_rfl) Tryz.underlying3
theorem txp_of {w : World} {l : List (String × DataW Unit)} (h : laidMet Tryz.prog l w) (hs : w.ShapedOpen Tryz.prog) (h1 : ("internal/strconv.uint64pow10", Rows.laid_internal_strconv_uint64pow10) ∈ l) : TxP w :=
  ⟨len_of_shaped hs, tab_of_reads (Lib.laidMet.reads h h1)⟩
theorem iface_of_reads {w : World} {n nm : String} {g : Nat} {d : DataW Unit} (hg : Tryz.prog.globalNamed n = some g) (ht : (Tryz.prog.globals[g]?).map (·.type) = some 29) (h : Lib.VarReads Tryz.prog w n (.iface nm d)) : ∃ tp p, w.var? Tryz.prog n = some #[.iface tp p] := by
  obtain ⟨g', t, cs, fuel, p, h1, h2, h3, h4⟩ := h
  obtain rfl := Option.some.inj (hg.symm.trans h1)
  obtain rfl := Option.some.inj (ht.symm.trans h2)
  obtain ⟨_, u, v, e, _⟩ := iface_of_trod Tryz.underlying29 h4
  have e2 : cs = #[.iface u v] := by cases cs; simpa using e
  exact ⟨u, v, by rw [h3, e2]⟩
theorem txok_of {w : World} {l : List (String × DataW Unit)} (h : laidMet Tryz.prog l w) (hs : w.ShapedOpen Tryz.prog) (h1 : ("internal/strconv.uint64pow10", Rows.laid_internal_strconv_uint64pow10) ∈ l) (h2 : ("strconv.ErrSyntax", Rows.laid_strconv_ErrSyntax) ∈ l) (h3 : ("strconv.ErrRange", Rows.laid_strconv_ErrRange) ∈ l) : TxOk w where
  toTxP := txp_of h hs h1
  sy := iface_of_reads (g := 5) (by kernel_rfl) (by kernel_rfl) (Lib.laidMet.reads h h2)
  ra := iface_of_reads (g := 6) (by kernel_rfl) (by kernel_rfl) (Lib.laidMet.reads h h3)
end Go.Proofs.YtflidfmpmakggaaGreatDoor
