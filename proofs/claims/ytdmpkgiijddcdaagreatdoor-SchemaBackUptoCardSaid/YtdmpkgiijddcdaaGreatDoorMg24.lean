/- Parts: SBac, OpenA, OpenB, OpenC, LaidW, TxG. -/
import Derived.Test.YtdmpkgiijddcdaaGreatDoorMg21
import Derived.Test.YtdmpkgiijddcdaaGreatDoorMg16
import Derived.Test.YtdmpkgiijddcdaaGreatDoorMg23
import Derived.Deep.DeepCutAuto
import Derived.Test.YtdmpkgiijddcdaaGreatDoorMg01
import Derived.Test.YtdmpkgiijddcdaaGreatDoorRows
import Derived.Deep.Slices
import Derived.Lib.SmallJoins
import Derived.JoinedCond
import Derived.Carry
import Derived.ChangeMaps5
import Derived.Lib.LaidU8
import Derived.LaidHandle
import Derived.MakeChecks
import Derived.Test.YtdmpkgiijddcdaaGreatDoorMg02
import Derived.LaidLaws
import Derived.Lib.LaidTab
import Derived.Shelf.Vars
/- The law SchemaBack, of the walks' contracts. Conditions: what the library's texts lean on (TxOk); the types' names are laid; the text is not too long. -/
namespace Go.Proofs.YtdmpkgiijddcdaaGreatDoor
open Go Go.RowKit

def factS : Scm := ⟨[⟨⟨#[97]⟩, [], [⟨⟨#[120]⟩, 1, true, true⟩]⟩, ⟨⟨#[98]⟩, [⟨#[97]⟩], [⟨⟨#[121]⟩, 3, true, false⟩]⟩], [⟨⟨#[112]⟩, ⟨#[97]⟩, ⟨#[98]⟩, 0, -1⟩]⟩
theorem factS_right : (scmE factS).2 = 0 := by decide +kernel
theorem factS_text : scmT factS = [107, 105, 110, 100, 32, 97, 32, 120, 58, 105, 110, 116, 42, 10, 107, 105, 110, 100, 32, 98, 32, 111, 102, 32, 97, 32, 121, 58, 116, 101, 120, 116, 33, 10, 98, 111, 110, 100, 32, 112, 32, 97, 32, 98, 32, 48, 32, 97, 110, 121, 10] := by decide +kernel
theorem scmT_len {s : Scm} (h : (scmE s).2 = 0) : (scmT s).length ≤ 1048576 := by
  have ho := scmE_zero h
  have h3 := ho.r.len
  have h4 := ho.bl
  unfold scmT
  have h1 := flatMap_len (f := kndT) (m := 450) (l := s.kinds) fun y hy => (line_knd ho.r hy).2
  have h2 := flatMap_len (f := bndT) (m := 450) (l := s.bonds) fun y hy => (line_bnd ho hy).2
  have h5 : s.kinds.length * 450 ≤ 12 * 450 := Nat.mul_le_mul h3 (Nat.le_refl _)
  have h6 : s.bonds.length * 450 ≤ 12 * 450 := Nat.mul_le_mul h4 (Nat.le_refl _)
  rw [List.length_append]; omega
set_option maxRecDepth 100000 in
set_option maxHeartbeats 16000000 in
theorem schemaBack_any (g : Scm) (s : ByteArray) (vk vb : Value) (w : World) (hT : TxOk w) (hY : Typ4 w) (hg : ScmR w vk vb g) (hs : Sm s) :
    Calls Tryz.prog 3 #[.agg #[vk, vb], .string s] w fun e w' => e = .returned (.bool true) ∧ Below w.heap.size w w' := by
  obtain ⟨A1, c1, rfl, _, hm1⟩ := hg.1.form
  obtain ⟨A2, c2, rfl, _, hm2⟩ := hg.2.form
  have hb0 : Below w.heap.size w (w.alloc (.cells #[.slice A1 g.kinds.length c1, .slice A2 g.bonds.length c2] 25)) := (Below.refl _ _).alloc (Nat.le_refl _) _
  obtain ⟨x0, x1⟩ := cell_box2 w (.slice A1 g.kinds.length c1) (.slice A2 g.bonds.length c2) 25
  have HG := Lib.hid (hg.below hb0)
  have HT := Lib.hid hT
  have HY := Lib.hid hY
  have HPF : Hid (∀ wx, TxOk wx → Typ4 wx → Calls Tryz.prog 8 #[.string ⟨#[107, 105, 110, 100, 32, 97, 32, 120, 58, 105, 110, 116, 42, 10, 107, 105, 110, 100, 32, 98, 32, 111, 102, 32, 97, 32, 121, 58, 116, 101, 120, 116, 33, 10, 98, 111, 110, 100, 32, 112, 32, 97, 32, 98, 32, 48, 32, 97, 110, 121, 10]⟩] wx fun e w' => ∃ gb o b2 o2 b3 o3 An cn At ct, e = .returned (.tuple #[.agg #[.slice An 2 cn, .slice At 1 ct], .int .i64 0, .nilIface]) ∧ An = some ⟨gb, o, none⟩ ∧ At = some ⟨b3, o3, none⟩ ∧ (∃ c3, w'.cell? ⟨gb, o + 2, none⟩ = some (.slice (some ⟨b2, o2, none⟩) 1 c3)) ∧ w'.cell? ⟨b2, o2 + 3, none⟩ = some (.bool true) ∧ w'.cell? ⟨b3, o3 + 4, none⟩ = some (.int .i64 (-1)) ∧ Below wx.heap.size wx w') := by
    intro wx hw hy
    obtain ⟨r1, r2, r3⟩ := read_scm factS_right
    have h := sparse_any (bs (scmT factS)) (by unfold Sm; rw [bs_size]; exact scmT_len factS_right) wx hw hy
    rw [bs_list, r1, r2, r3, errV_zero rfl] at h
    rw [factS_text] at h
    refine h.mono ?_
    rintro e w' ⟨vn, vt, rfl, hG, hb⟩
    obtain ⟨An, cn, rfl, _, _⟩ := hG.1.form
    obtain ⟨At, ct, rfl, _, _⟩ := hG.2.form
    obtain ⟨gb, o, rfl, u, x, _, _, hf, _, _, y2⟩ := knd_at hG.1 (k := 0) rfl
    obtain ⟨A3, c3, rfl, _, _⟩ := hf.form
    obtain ⟨b2, o2, rfl, _, _, _, _, q3⟩ := fld_at hf (k := 0) rfl
    obtain ⟨b3, o3, rfl, _, _, _, _, _, q4⟩ := bnd_at hG.2 (k := 0) rfl
    rw [Nat.zero_mul, Nat.add_zero] at y2 q3 q4
    exact ⟨gb, o, b2, o2, b3, o3, _, cn, _, ct, rfl, rfl, rfl, ⟨c3, y2⟩, q3, q4, hb⟩
  have HParG : Hid ((scmE g).2 = 0 → ∀ wx, TxOk wx → Typ4 wx → Calls Tryz.prog 8 #[.string (bs (scmT g))] wx fun e w' => ∃ vn vt, e = .returned (.tuple #[.agg #[vn, vt], .int .i64 0, .nilIface]) ∧ ScmR w' vn vt g ∧ Below wx.heap.size wx w') := by
    intro h0 wx hw hy
    obtain ⟨r1, r2, r3⟩ := read_scm h0
    have h := sparse_any (bs (scmT g)) (by unfold Sm; rw [bs_size]; exact scmT_len h0) wx hw hy
    rw [bs_list, r1, r2, r3, errV_zero rfl] at h
    exact h
  have HParS := Lib.hid (fun wx hw hy => sparse_any s hs wx hw hy)
  have HSame := Lib.hid (fun k1 k2 wx h1 h2 => sschema_any g k1 k2 (.slice A1 g.kinds.length c1) (.slice A2 g.bonds.length c2) wx h1 h2)
  clear hg hT hY hs
  go_enter Tryz.func3, Tryz.ntmps3
  go_upto_region 1 with fail
  generalize w.alloc (.cells #[.slice A1 g.kinds.length c1, .slice A2 g.bonds.length c2] 25) = W0 at *
  have X0 := Lib.hid x0
  have X1 := Lib.hid x1
  have hx := HPF.out W0 (HT.out.below hb0) (HY.out.below hb0)
  clear x0 x1 HPF
  go_wp2_with fail
  refine hx.mono ?_
  clear hx
  rintro e w1 ⟨gb, o, b2, o2, b3, o3, An, cn, At, ct, rfl, rfl, rfl, ⟨c3, y2⟩, q2, q4, hb1⟩
  have ha2 := (Below.refl w1.heap.size w1).alloc (Nat.le_refl _) (.cells #[.slice (some ⟨gb, o, none⟩) 2 cn, .slice (some ⟨b3, o3, none⟩) 1 ct] 25)
  obtain ⟨z0, z1⟩ := cell_box2 w1 (.slice (some ⟨gb, o, none⟩) 2 cn) (.slice (some ⟨b3, o3, none⟩) 1 ct) 25
  have y2 := cell_below ha2 y2
  have q2 := cell_below ha2 q2
  have q4 := cell_below ha2 q4
  have hb2 := hb1.trans (ha2.mono hb1.size)
  have hB2 := hb0.trans (hb2.mono hb0.size)
  clear ha2
  go_upto_region 2 with fail
  generalize w1.alloc (.cells #[.slice (some ⟨gb, o, none⟩) 2 cn, .slice (some ⟨b3, o3, none⟩) 1 ct] 25) = w2 at *
  go_upto_region 4 with fail
  have x0 := cell_below hb2 X0.out
  have x1 := cell_below hb2 X1.out
  have hx := sprint_any g _ _ w2 (HY.out.below hB2).1 (HG.out.below hb2)
  clear z0 z1 y2 q2 q4 hb1
  go_wp2_with fail
  refine hx.mono ?_
  clear hx x0 x1
  rintro e w3 ⟨rfl, hb3⟩
  have hB3 := hB2.trans (hb3.mono hB2.size)
  have hb3 := hb2.trans (hb3.mono hb2.size)
  clear hb2 hB2
  by_cases hz : (scmE g).2 = 0
  · have hx := HParG.out hz w3 (HT.out.below hB3) (HY.out.below hB3)
    rw [errV_zero hz, if_pos hz]
    clear hz HParG
    generalize scmT g = GT at *
    go_wp2_with fail
    refine hx.mono ?_
    clear hx
    rintro e w4 ⟨vn, vt, rfl, hg4, hb4⟩
    have hB4 := hB3.trans (hb4.mono hB3.size)
    have hb4 := hb3.trans (hb4.mono hb3.size)
    obtain ⟨A4, c4, rfl, _, _⟩ := hg4.1.form
    obtain ⟨A5, c5, rfl, _, _⟩ := hg4.2.form
    have ha5 := (Below.refl w4.heap.size w4).alloc (Nat.le_refl _) (.cells #[.slice A4 g.kinds.length c4, .slice A5 g.bonds.length c5] 25)
    obtain ⟨z0, z1⟩ := cell_box2 w4 (.slice A4 g.kinds.length c4) (.slice A5 g.bonds.length c5) 25
    have hg5 := hg4.below ha5
    have hB5 := hB4.trans (ha5.mono hB4.size)
    have hb5 := hb4.trans (ha5.mono hb4.size)
    clear hb3 hB3 hb4 hB4 hg4 ha5
    go_upto_region 7 with fail
    generalize w4.alloc (.cells #[.slice A4 g.kinds.length c4, .slice A5 g.bonds.length c5] 25) = w5 at *
    have x0 := cell_below hb5 X0.out
    have x1 := cell_below hb5 X1.out
    have hx := HSame.out _ _ w5 hg5 (HG.out.below hb5)
    clear hg5 HSame
    go_wp2_with fail
    refine hx.mono ?_
    clear hx x0 x1 z0 z1
    rintro e w6 ⟨rfl, hb6⟩
    have hB6 := hB5.trans (hb6.mono hB5.size)
    clear hB5 hb5 hb6 X0 X1 HG
    -- behind the first part: the world is w6; hB6
    have hx := HParS.out w6 (HT.out.below hB6) (HY.out.below hB6)
    go_wp2_with fail
    refine hx.mono ?_
    clear hx
    rintro e w7 ⟨vn, vt, rfl, hg7, hb7⟩
    have hB7 := hB6.trans (hb7.mono hB6.size)
    obtain ⟨RE, hRE⟩ : ∃ RE, RE = readSE s.data.toList := ⟨_, rfl⟩
    have HRE := Lib.hid hRE
    rw [← hRE]
    clear hRE HParS hb7 hB6
    obtain ⟨A7, c7, rfl, _, _⟩ := hg7.1.form
    obtain ⟨A8, c8, rfl, _, _⟩ := hg7.2.form
    have ha8 := (Below.refl w7.heap.size w7).alloc (Nat.le_refl _) (.cells #[.slice A7 (readSV s.data.toList).kinds.length c7, .slice A8 (readSV s.data.toList).bonds.length c8] 25)
    obtain ⟨z0, z1⟩ := cell_box2 w7 (.slice A7 (readSV s.data.toList).kinds.length c7) (.slice A8 (readSV s.data.toList).bonds.length c8) 25
    have HG8 := Lib.hid (hg7.below ha8)
    have hB8 := hB7.trans (ha8.mono hB7.size)
    by_cases hr : RE = 0
    case neg =>
      rw [errV_some hr]
      clear hr hg7 HRE z0 z1 HG8
      go_wp2_with fail
      go_ret
      exact ⟨rfl, hB8⟩
    obtain ⟨r1, r2⟩ := scm_read (by rw [← HRE.out]; exact hr)
    rw [errV_zero hr]
    clear hr hg7 HRE
    go_upto_region 11 with fail
    generalize w7.alloc (.cells #[.slice A7 (readSV s.data.toList).kinds.length c7, .slice A8 (readSV s.data.toList).bonds.length c8] 25) = w8 at *
    have hx := sprint_any (readSV s.data.toList) _ _ w8 (HY.out.below hB8).1 HG8.out
    rw [r1, if_pos rfl, r2, bs_of, errV_zero rfl] at hx
    generalize readSV s.data.toList = RV at *
    clear r1 r2 HG8
    go_wp2_with fail
    refine hx.mono ?_
    clear hx z0 z1
    rintro e w9 ⟨rfl, hb9⟩
    have hss : (s.toList == s.toList) = true := by simp
    go_wp2_with fail
    go_ret
    exact ⟨by simp, hB8.trans (hb9.mono hB8.size)⟩
  · rw [errV_some hz, if_neg hz]
    have hB6 := hB3
    obtain ⟨w6, hw6⟩ : ∃ w6 : World, w6 = w3 := ⟨_, rfl⟩
    rw [← hw6] at hB6 ⊢
    clear hz HParG HSame hB3 hb3 hw6 X0 X1 HG
    -- behind the first part: the world is w6; hB6
    have hx := HParS.out w6 (HT.out.below hB6) (HY.out.below hB6)
    go_wp2_with fail
    refine hx.mono ?_
    clear hx
    rintro e w7 ⟨vn, vt, rfl, hg7, hb7⟩
    have hB7 := hB6.trans (hb7.mono hB6.size)
    obtain ⟨RE, hRE⟩ : ∃ RE, RE = readSE s.data.toList := ⟨_, rfl⟩
    have HRE := Lib.hid hRE
    rw [← hRE]
    clear hRE HParS hb7 hB6
    obtain ⟨A7, c7, rfl, _, _⟩ := hg7.1.form
    obtain ⟨A8, c8, rfl, _, _⟩ := hg7.2.form
    have ha8 := (Below.refl w7.heap.size w7).alloc (Nat.le_refl _) (.cells #[.slice A7 (readSV s.data.toList).kinds.length c7, .slice A8 (readSV s.data.toList).bonds.length c8] 25)
    obtain ⟨z0, z1⟩ := cell_box2 w7 (.slice A7 (readSV s.data.toList).kinds.length c7) (.slice A8 (readSV s.data.toList).bonds.length c8) 25
    have HG8 := Lib.hid (hg7.below ha8)
    have hB8 := hB7.trans (ha8.mono hB7.size)
    by_cases hr : RE = 0
    case neg =>
      rw [errV_some hr]
      clear hr hg7 HRE z0 z1 HG8
      go_wp2_with fail
      go_ret
      exact ⟨rfl, hB8⟩
    obtain ⟨r1, r2⟩ := scm_read (by rw [← HRE.out]; exact hr)
    rw [errV_zero hr]
    clear hr hg7 HRE
    go_upto_region 11 with fail
    generalize w7.alloc (.cells #[.slice A7 (readSV s.data.toList).kinds.length c7, .slice A8 (readSV s.data.toList).bonds.length c8] 25) = w8 at *
    have hx := sprint_any (readSV s.data.toList) _ _ w8 (HY.out.below hB8).1 HG8.out
    rw [r1, if_pos rfl, r2, bs_of, errV_zero rfl] at hx
    generalize readSV s.data.toList = RV at *
    clear r1 r2 HG8
    go_wp2_with fail
    refine hx.mono ?_
    clear hx z0 z1
    rintro e w9 ⟨rfl, hb9⟩
    have hss : (s.toList == s.toList) = true := by simp
    go_wp2_with fail
    go_ret
    exact ⟨by simp, hB8.trans (hb9.mono hB8.size)⟩
open Go Go.RowKit Go.Deep Go.ChangeShapes Go.WideShapes Go.Joins

/-! ### Bulk -/
section
variable {H : Type}
theorem bulk_part {d : DataW H} {l : List (DataW H)} (h : d ∈ l) : Rows.uptoBulk d ≤ Rows.uptoBulkAll l := by
  induction l with
  | nil => cases h
  | cons x r ih =>
    simp only [Rows.uptoBulkAll]
    cases List.mem_cons.1 h with
    | inl e => subst e; omega
    | inr e => have := ih e; omega
theorem bulk_small {ds : List (DataW H)} (hk : Rows.uptoSmall H ds = true) {d : DataW H} (h : d ∈ ds) : Rows.uptoBulk d ≤ 1048576 := by
  have h1 : Rows.uptoBulkAll ds ≤ 1048576 := of_decide_eq_true hk
  have := bulk_part h
  omega
end

/-- Data of type t lie as L says. -/
def Opens {D : Type} (P : Program) (L : Lay D) (t : TypeId) : Prop :=
  ∀ (H : Type) (enc : TypeId × Value → H) (w : World) (base : Nat) (spare : Nat → Bool) (held : Bool) (fuel : Nat) (cs : List Value) (x : DataW H × List MemPlace),
    DataW.trod enc P w base spare held fuel t cs = some x → Rows.uptoBulk x.1 ≤ 1048576 → ∃ d, L.cells w d cs

theorem add_off (b o n : Nat) : (⟨b, o, none⟩ : Addr).add n = ⟨b, o + n, none⟩ := by
  unfold Addr.add
  split
  · rename_i h; subst h; rfl
  · rfl

theorem rows_of {D : Type} {L : Lay D} {w : World} {a : Addr} {len : Nat} (h : ∀ i, i < len → ∃ d cs, L.cells w d cs ∧ ∀ j u, cs[j]? = some u → w.cell? ((a.add (i * L.sz)).add j) = some u) :
    ∀ k, k ≤ len → ∃ l : List D, l.length = k ∧ ∀ i d, l[i]? = some d → ∃ cs, L.cells w d cs ∧ ∀ j u, cs[j]? = some u → w.cell? ((a.add (i * L.sz)).add j) = some u
  | 0, _ => ⟨[], rfl, fun i d hi => by simp at hi⟩
  | k + 1, hk => by
    obtain ⟨l, hl, hall⟩ := rows_of h k (by omega)
    obtain ⟨d, cs, hc, hcell⟩ := h k (by omega)
    refine ⟨l ++ [d], by simp [hl], fun i x hi => ?_⟩
    by_cases hik : i < l.length
    · rw [List.getElem?_append_left hik] at hi
      exact hall i x hi
    · rw [List.getElem?_append_right (by omega)] at hi
      have e1 : i - l.length = 0 := by
        have := (List.getElem?_eq_some_iff.1 hi).1
        simp at this; omega
      rw [e1] at hi
      simp at hi
      subst hi
      obtain rfl : i = k := by omega
      exact ⟨cs, hc, hcell⟩

theorem Opens.slice {D : Type} {P : Program} {L : Lay D} {t e : TypeId} (ht : P.underlying t = some (.slice e)) (hC : P.cellsOf e = L.sz) (hs : 0 < L.sz) (h : Opens P L e) : Opens P (slL L) t := by
  intro H enc w base spare held fuel cs x hx hb
  rcases open_slice ht hx with ⟨rfl, rfl⟩ | ⟨a, len, cap, m, n, D', Pl, rfl, hbb, hl, hm, hmm, rfl, hi⟩
  · exact ⟨[], _, rfl, Sl.nil 0 (by unfold maxLen; omega) none⟩
  · have hm' : len ≤ m := by rw [hmm]; split <;> omega
    have hbA : Rows.uptoBulkAll ((List.range len).map D') ≤ 1048576 := by
      simp only [Rows.uptoBulk] at hb
      omega
    have each : ∀ i, i < len → ∃ d cs, L.cells w d cs ∧ ∀ j u, cs[j]? = some u → w.cell? ((a.add (i * L.sz)).add j) = some u := fun i hil => by
      obtain ⟨cs', hc, ht'⟩ := hi i (by omega)
      rw [hC] at hc
      obtain ⟨_, hcl, hat⟩ := World.cells?_some hc
      have hbi : Rows.uptoBulk (D' i) ≤ 1048576 := by
        have := bulk_part (d := D' i) (l := (List.range len).map D') (List.mem_map.2 ⟨i, List.mem_range.2 hil, rfl⟩)
        omega
      obtain ⟨d, hd⟩ := h H enc w base spare held n cs' _ ht' hbi
      refine ⟨d, cs', hd, fun j u hj => ?_⟩
      have hjl : j < L.sz := by have := (List.getElem?_eq_some_iff.1 hj).1; omega
      rw [hat j hjl, hj]
    by_cases h0 : len = 0
    · subst h0
      exact ⟨[], _, rfl, Sl.nil cap hm (some a)⟩
    · obtain ⟨b, o, spot⟩ := a
      have hspot : spot = none := by
        obtain ⟨d, cs', hd, hcell⟩ := each 0 (by omega)
        have hl0 := L.len hd
        have h1 := hcell 0 _ (List.getElem?_eq_getElem (by omega))
        simpa [Addr.add] using World.cell?_spot h1
      subst hspot
      obtain ⟨l, hll, hall⟩ := rows_of each len (Nat.le_refl _)
      subst hll
      refine ⟨l, _, rfl, _, cap, rfl, hl, hm, fun i d hid => ?_⟩
      obtain ⟨cs', hd, hcell⟩ := hall i d hid
      refine ⟨b, o, cs', rfl, hd, fun j u hj => ?_⟩
      have := hcell j u hj
      rw [add_off, add_off, Nat.add_assoc] at this
      exact this

theorem field_at {H : Type} {enc : TypeId × Value → H} {P : Program} {w : World} {base : Nat} {spare : Nat → Bool} {held : Bool} {t : TypeId} {fs : Array Field} {fuel : Nat} {cs : List Value} {x : DataW H × List MemPlace}
    (ht : P.underlying t = some (.struct fs)) (h : DataW.trod enc P w base spare held fuel t cs = some x) (hb : Rows.uptoBulk x.1 ≤ 1048576) :
    cs.length = P.cellsOf t ∧ ∀ {D : Type} {L : Lay D} (i : Nat) (f : Field) (k : Nat), fs[i]? = some f → P.cellsOf f.type = k → Opens P L f.type → ∃ d, L.cells w d ((cs.drop f.offset).take k) := by
  obtain ⟨xs, n, _, rfl, hl, hxl, hf⟩ := DataW.trod_struct ht h
  refine ⟨hl, fun i f k hi hk ho => ?_⟩
  have h1 := hf i f hi
  have hil : i < xs.length := by have := (Array.getElem?_eq_some_iff.1 hi).1; omega
  obtain ⟨y, hy⟩ : ∃ y, xs[i]? = some y := ⟨_, List.getElem?_eq_getElem hil⟩
  rw [hy, hk] at h1
  refine ho H enc w base spare held n _ y h1 ?_
  have := bulk_part (d := y.1) (l := xs.map (·.1)) (List.mem_map.2 ⟨y, List.mem_of_getElem? hy, rfl⟩)
  simp only [Rows.uptoBulk] at hb
  omega

theorem opens_int {P : Program} {t : TypeId} (ht : P.underlying t = some (.int .i64)) : Opens P intL t := by
  intro H enc w base spare held fuel cs x hx hb
  obtain ⟨n, rfl, rfl, hw⟩ := DataW.trod_int ht hx
  refine ⟨n, rfl, ?_⟩
  have e1 : IntKind.i64.min = -9223372036854775808 := rfl
  have e2 : IntKind.i64.max = 9223372036854775807 := rfl
  simp [Lit.wf, e1, e2] at hw
  exact hw
theorem opens_str {P : Program} {t : TypeId} (ht : P.underlying t = some .string) : Opens P strL t := by
  intro H enc w base spare held fuel cs x hx hb
  obtain ⟨s, rfl, rfl, hw⟩ := DataW.trod_string ht hx
  refine ⟨s, rfl, ?_⟩
  simp only [Rows.uptoBulk, Array.length_toList] at hb
  show s.data.size ≤ 1048576
  omega
def boolL : Lay Bool := flatL 1 (fun _ => True) (fun b => [.bool b]) (fun _ => rfl)
theorem opens_bool {P : Program} {t : TypeId} (ht : P.underlying t = some .bool) : Opens P boolL t := by
  intro H enc w base spare held fuel cs x hx hb
  obtain ⟨b, rfl, rfl⟩ := DataW.trod_bool ht hx
  exact ⟨b, rfl, trivial⟩
open Go Go.RowKit Go.Deep Go.ChangeShapes Go.WideShapes

theorem oInt : Opens Tryz.prog intL 3 := opens_int Tryz.underlying3
theorem oStr : Opens Tryz.prog strL 9 := opens_str Tryz.underlying9
theorem oBool : Opens Tryz.prog boolL 4 := opens_bool Tryz.underlying4

theorem o_fld : Opens Tryz.prog fldL 31 := by
  intro H enc w base spare held fuel cs x hx hb
  obtain ⟨hl, hf⟩ := field_at Tryz.underlying31 hx hb
  rw [show Tryz.prog.cellsOf 31 = 4 from by kernel_rfl] at hl
  match cs, hl with
  | [c0, c1, c2, c3], _ =>
    obtain ⟨a0, e0, h0⟩ := hf (L := strL) 0 _ 1 rfl (by kernel_rfl) oStr
    have e0 : [c0] = [.string a0] := e0
    injection e0 with e0 _
    subst e0
    obtain ⟨a1, e1, h1⟩ := hf (L := intL) 1 _ 1 rfl (by kernel_rfl) oInt
    have e1 : [c1] = [.int .i64 a1] := e1
    injection e1 with e1 _
    subst e1
    obtain ⟨a2, e2, h2⟩ := hf (L := boolL) 2 _ 1 rfl (by kernel_rfl) oBool
    have e2 : [c2] = [.bool a2] := e2
    injection e2 with e2 _
    subst e2
    obtain ⟨a3, e3, h3⟩ := hf (L := boolL) 3 _ 1 rfl (by kernel_rfl) oBool
    have e3 : [c3] = [.bool a3] := e3
    injection e3 with e3 _
    subst e3
    exact ⟨⟨a0, a1, a2, a3⟩, rfl, h0, h1⟩
theorem o_bnd : Opens Tryz.prog bndL 37 := by
  intro H enc w base spare held fuel cs x hx hb
  obtain ⟨hl, hf⟩ := field_at Tryz.underlying37 hx hb
  rw [show Tryz.prog.cellsOf 37 = 5 from by kernel_rfl] at hl
  match cs, hl with
  | [c0, c1, c2, c3, c4], _ =>
    obtain ⟨a0, e0, h0⟩ := hf (L := strL) 0 _ 1 rfl (by kernel_rfl) oStr
    have e0 : [c0] = [.string a0] := e0
    injection e0 with e0 _
    subst e0
    obtain ⟨a1, e1, h1⟩ := hf (L := strL) 1 _ 1 rfl (by kernel_rfl) oStr
    have e1 : [c1] = [.string a1] := e1
    injection e1 with e1 _
    subst e1
    obtain ⟨a2, e2, h2⟩ := hf (L := strL) 2 _ 1 rfl (by kernel_rfl) oStr
    have e2 : [c2] = [.string a2] := e2
    injection e2 with e2 _
    subst e2
    obtain ⟨a3, e3, h3⟩ := hf (L := intL) 3 _ 1 rfl (by kernel_rfl) oInt
    have e3 : [c3] = [.int .i64 a3] := e3
    injection e3 with e3 _
    subst e3
    obtain ⟨a4, e4, h4⟩ := hf (L := intL) 4 _ 1 rfl (by kernel_rfl) oInt
    have e4 : [c4] = [.int .i64 a4] := e4
    injection e4 with e4 _
    subst e4
    exact ⟨⟨a0, a1, a2, a3, a4⟩, rfl, h0, h1, h2, h3, h4⟩
theorem o_strs : Opens Tryz.prog (slL strL) 32 := Opens.slice Tryz.underlying32 (by kernel_rfl) (by decide) oStr
theorem o_flds : Opens Tryz.prog (slL fldL) 33 := Opens.slice Tryz.underlying33 (by kernel_rfl) (by decide) o_fld
theorem o_bnds : Opens Tryz.prog (slL bndL) 23 := Opens.slice Tryz.underlying23 (by kernel_rfl) (by decide) o_bnd
theorem o_knd : Opens Tryz.prog kndL 35 := by
  intro H enc w base spare held fuel cs x hx hb
  obtain ⟨hl, hf⟩ := field_at Tryz.underlying35 hx hb
  rw [show Tryz.prog.cellsOf 35 = 3 from by kernel_rfl] at hl
  match cs, hl with
  | [c0, c1, c2], _ =>
    obtain ⟨a0, e0, h0⟩ := hf (L := strL) 0 _ 1 rfl (by kernel_rfl) oStr
    have e0 : [c0] = [.string a0] := e0
    injection e0 with e0 _
    subst e0
    obtain ⟨a1, v1, e1, h1⟩ := hf (L := slL strL) 1 _ 1 rfl (by kernel_rfl) o_strs
    have e1 : [c1] = [v1] := e1
    injection e1 with e1 _
    subst e1
    obtain ⟨a2, v2, e2, h2⟩ := hf (L := slL fldL) 2 _ 1 rfl (by kernel_rfl) o_flds
    have e2 : [c2] = [v2] := e2
    injection e2 with e2 _
    subst e2
    exact ⟨⟨a0, a1, a2⟩, c1, c2, rfl, h0, h1, h2⟩
theorem o_knds : Opens Tryz.prog (slL kndL) 22 := Opens.slice Tryz.underlying22 (by kernel_rfl) (by decide) o_knd

/-! ### Arguments -/
set_option maxRecDepth 100000 in
/-- A struct of two slices. -/
theorem arg_two {D E : Type} {L : Lay D} {M : Lay E} {t : TypeId} {f0 f1 : Field} {H : Type} {enc : TypeId × Value → H} {w : World} {base b0 : Nat} {r : Reach} {spare : Nat → Bool} {held : Bool} {v : Value} {d : DataW H} {p : List MemPlace}
    (hs : Tryz.prog.underlying t = some (.struct #[f0, f1])) (hone : oneCellFields Tryz.prog #[f0, f1] = true) (hC : Tryz.prog.cellsOf t = 2) (h0 : Opens Tryz.prog (slL L) f0.type) (h1 : Opens Tryz.prog (slL M) f1.type)
    (hv : Value.okWide Tryz.prog w r b0 t v) (h : DataW.Trod enc Tryz.prog w base spare held t v d p) (hb : Rows.uptoBulk d ≤ 1048576) : ∃ v0 v1 l m, v = .agg #[v0, v1] ∧ Sl L w v0 l ∧ Sl M w v1 m := by
  obtain ⟨v0, v1, y0, y1, n, rfl, rfl, rfl, g0, g1⟩ := Joins.open_agg2 hs hone hC hv h
  simp only [Rows.uptoBulk, Rows.uptoBulkAll] at hb
  obtain ⟨l, v0', e0, k0⟩ := h0 H enc w base spare held n _ _ g0 (by omega)
  obtain ⟨m, v1', e1, k1⟩ := h1 H enc w base spare held n _ _ g1 (by omega)
  injection e0 with e0 _
  injection e1 with e1 _
  subst e0; subst e1
  exact ⟨v0, v1, l, m, rfl, k0, k1⟩
set_option maxRecDepth 100000 in
theorem arg_schema {H : Type} {enc : TypeId × Value → H} {w : World} {base b0 : Nat} {r : Reach} {spare : Nat → Bool} {held : Bool} {v : Value} {d : DataW H} {p : List MemPlace}
    (hv : Value.okWide Tryz.prog w r b0 25 v) (h : DataW.Trod enc Tryz.prog w base spare held 25 v d p) (hb : Rows.uptoBulk d ≤ 1048576) : ∃ v0 v1 g, v = .agg #[v0, v1] ∧ ScmR w v0 v1 g := by
  obtain ⟨v0, v1, l, m, rfl, h0, h1⟩ := arg_two Tryz.underlying25 (by kernel_rfl) (by kernel_rfl) o_knds o_bnds hv h hb
  exact ⟨v0, v1, ⟨l, m⟩, rfl, h0, h1⟩

set_option maxRecDepth 100000 in
theorem arg_str {H : Type} {enc : TypeId × Value → H} {w : World} {base b0 : Nat} {r : Reach} {spare : Nat → Bool} {held : Bool} {v : Value} {d : DataW H} {p : List MemPlace}
    (hv : Value.okWide Tryz.prog w r b0 9 v) (h : DataW.Trod enc Tryz.prog w base spare held 9 v d p) (hb : Rows.uptoBulk d ≤ 1048576) : ∃ s, v = .string s ∧ Sm s := by
  obtain ⟨s, rfl, rfl, _, _⟩ := ChangeMaps.open_string Tryz.underlying9 hv h
  refine ⟨s, rfl, ?_⟩
  have hb' : s.data.toList.length + 1 ≤ 1048576 := hb
  clear hb
  unfold Sm
  have : s.data.toList.length = s.size := Array.length_toList
  omega
open Go

def laidOne : DataW Unit → Value
  | .lit (.int k z) => .int k z
  | .lit (.string b) => .string ⟨b.toArray⟩
  | _ => .int .i64 0
def laidTwo : DataW Unit → List Value
  | .agg ds => ds.map laidOne
  | d => [laidOne d]
def laidCells : DataW Unit → List Value
  | .agg ds => ds.flatMap laidTwo
  | d => [laidOne d]
/-- A row of heap objects, one variable's cells laid. -/
def layVar (h : Array Obj) (g : Nat) (d : DataW Unit) : Array Obj := h.modify g fun
  | .cells _ t frozen => .cells (laidCells d).toArray t frozen
  | o => o
/-- The same: a variable that holds an error, whose text lies in block b. -/
def layErr (h : Array Obj) (g t b : Nat) : Array Obj := h.modify g fun
  | .cells _ u frozen => .cells #[.iface t (.pointer (some ⟨b, 0, none⟩))] u frozen
  | o => o
/-- A laid array of strings holds them, cell for cell. -/
theorem strs_of_reads {P : Program} {w : World} {n : String} {g t e m : Nat} {ds : List (DataW Unit)} (hg : P.globalNamed n = some g) (ht : (P.globals[g]?).map (·.type) = some t) (hu : P.underlying t = some (.array m e)) (he : P.underlying e = some .string) (hc : P.cellsOf e = 1)
    (h : Lib.VarReads P w n (.agg ds)) (i : Nat) (hi : i < m) {b : List UInt8} (hd : ds[i]? = some (.lit (.string b))) : w.cell? ⟨g, i, none⟩ = some (.string ⟨b.toArray⟩) := by
  obtain ⟨g', t', cs, fuel, p, h1, h2, h3, h4⟩ := h
  obtain rfl := Option.some.inj (hg.symm.trans h1)
  obtain rfl := Option.some.inj (ht.symm.trans h2)
  obtain ⟨fuel', d, q, hdi, hx⟩ := Lib.array_elem hu h4 i hi
  obtain rfl := Option.some.inj (hd.symm.trans hdi)
  rw [hc] at hx
  obtain ⟨s, hs, hx2, _⟩ := DataW.trod_string he hx
  have e1 : b = s.data.toList := by injection (congrArg Prod.fst hx2) with e1; injection e1
  have e0 := congrArg (·[0]?) hs
  rw [World.var?_cell h1 h3 i, ← Array.getElem?_toList]
  simp only [List.getElem?_take, List.getElem?_drop] at e0
  rw [e1]
  simpa using e0

theorem tab_of_reads {w : World} (h : Lib.VarReads Tryz.prog w "internal/strconv.uint64pow10" Rows.laid_internal_strconv_uint64pow10) : Lib.TabIs Tryz.prog w "internal/strconv.uint64pow10" .u64 Lib.pow10Tab := by
  obtain ⟨g, t, cs, fuel, p, h1, h2, h3, h4⟩ := h
  obtain rfl := Option.some.inj ((show Tryz.prog.globalNamed "internal/strconv.uint64pow10" = some 5 by kernel_rfl).symm.trans h1)
  obtain rfl := Option.some.inj ((show (Tryz.prog.globals[5]?).map (·.type) = some 277 by kernel_rfl).symm.trans h2)
  have e := Lib.cells_of_tab (zs := Lib.pow10Tab) Tryz.underlying277 Tryz.underlying241 (by kernel_rfl) (by kernel_rfl) h4
  unfold Lib.TabIs
  rw [h3, ← e]
theorem len_of_shaped {w : World} (h : w.ShapedOpen Tryz.prog) : ∃ m, w.cell? ⟨4, 0, none⟩ = some (.int .i64 m) :=
  cell_of_shapedOpen_int (zero := #[.int .i64 0]) (t := 3) h (of_decide_eq_true (by kernel_rfl)) (by kernel_rfl) rfl (by kernel_rfl) (by kernel_rfl) Tryz.underlying3
theorem txp_of {w : World} {l : List (String × DataW Unit)} (h : laidMet Tryz.prog l w) (hs : w.ShapedOpen Tryz.prog) (h1 : ("internal/strconv.uint64pow10", Rows.laid_internal_strconv_uint64pow10) ∈ l) : TxP w :=
  ⟨len_of_shaped hs, tab_of_reads (Lib.laidMet.reads h h1)⟩
theorem iface_of_reads {w : World} {n nm : String} {g : Nat} {d : DataW Unit} (hg : Tryz.prog.globalNamed n = some g) (ht : (Tryz.prog.globals[g]?).map (·.type) = some 27) (h : Lib.VarReads Tryz.prog w n (.iface nm d)) : ∃ tp p, w.var? Tryz.prog n = some #[.iface tp p] := by
  obtain ⟨g', t, cs, fuel, p, h1, h2, h3, h4⟩ := h
  obtain rfl := Option.some.inj (hg.symm.trans h1)
  obtain rfl := Option.some.inj (ht.symm.trans h2)
  obtain ⟨_, u, v, e, _⟩ := iface_of_trod Tryz.underlying27 h4
  have e2 : cs = #[.iface u v] := by cases cs; simpa using e
  exact ⟨u, v, by rw [h3, e2]⟩
theorem txok_of {w : World} {l : List (String × DataW Unit)} (h : laidMet Tryz.prog l w) (hs : w.ShapedOpen Tryz.prog) (h1 : ("internal/strconv.uint64pow10", Rows.laid_internal_strconv_uint64pow10) ∈ l) (h2 : ("strconv.ErrSyntax", Rows.laid_strconv_ErrSyntax) ∈ l) (h3 : ("strconv.ErrRange", Rows.laid_strconv_ErrRange) ∈ l) : TxOk w where
  toTxP := txp_of h hs h1
  sy := iface_of_reads (g := 2) (by kernel_rfl) (by kernel_rfl) (Lib.laidMet.reads h h2)
  ra := iface_of_reads (g := 3) (by kernel_rfl) (by kernel_rfl) (Lib.laidMet.reads h h3)
end Go.Proofs.YtdmpkgiijddcdaaGreatDoor
