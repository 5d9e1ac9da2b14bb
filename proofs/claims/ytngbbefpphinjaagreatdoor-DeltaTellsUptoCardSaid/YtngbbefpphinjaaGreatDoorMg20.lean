/- Parts: MapB, DbS, DoC. -/
import Derived.Test.YtngbbefpphinjaaGreatDoorMg06
import Derived.Test.YtngbbefpphinjaaGreatDoorMg05
import Derived.Maps.Keyed
import Derived.Maps.Views
import Derived.Test.YtngbbefpphinjaaGreatDoorMg15
import Derived.Test.YtngbbefpphinjaaGreatDoorMg17
import Derived.Test.YtngbbefpphinjaaGreatDoorMg19
import Derived.Test.YtngbbefpphinjaaGreatDoorMg08
import Derived.Deep.DeepCutAuto
/- Plain: a map from ints to bools that the call made, as a set. No condition. -/
namespace Go.Proofs.YtngbbefpphinjaaGreatDoor
open Go Go.RowKit
open Go.Maps (Keyed)

def IdsIs (D : DataW Unit) (S : Int → Bool) : Prop := Maps.IsMap D ∧ ∀ n : Int, I64 n → D.atKey (.int .i64 n) (.lit (.bool false)) = .lit (.bool (S n)) ∧ Maps.has D (.int .i64 n) = S n
theorem IdsIs.empty : IdsIs (.map []) (fun _ => false) := ⟨⟨[], rfl⟩, fun _ _ => ⟨rfl, rfl⟩⟩
theorem IdsIs.put {D : DataW Unit} {S : Int → Bool} (h : IdsIs D S) {x : Int} (hk : WideAt.IsKeyLit (.int .i64 x)) : IdsIs (D.put (.int .i64 x) (.lit (.bool true))) (fun s => S s || decide (x = s)) := by
  refine ⟨h.1.put _ _, fun s hs => ?_⟩
  by_cases e : x = s
  · subst e
    rw [Maps.atKey_put_same h.1 hk, Maps.has_put_same h.1 hk]
    simp
  · have hne : (Lit.int .i64 s) ≠ .int .i64 x := fun e' => e (by injection e' with _ e'; exact e'.symm)
    rw [Maps.atKey_put_other hne, Maps.has_put_other hne, (h.2 s hs).1, (h.2 s hs).2]
    simp [e]
theorem wf_i64 {v : Int} (hv : I64 v) : (Lit.int .i64 v).wf = true := by
  obtain ⟨h1, h2⟩ := hv
  have e1 : IntKind.min .i64 = -9223372036854775808 := by decide
  have e2 : IntKind.max .i64 = 9223372036854775807 := by decide
  simp only [Lit.wf, Bool.and_eq_true, decide_eq_true_eq, e1, e2]
  exact ⟨h1, h2⟩
/-- Block b is a map of at most n entries: the set S. -/
def MapB (w : World) (b n : Nat) (S : Int → Bool) : Prop :=
  ∃ D : DataW Unit, w.ownsMap Tryz.prog 3 (plainElem Tryz.prog 4) b n D ∧ IdsIs D S
theorem zeroBoolB (w : World) : (zeroValue 4).run Tryz.prog w = .ok (.bool false) w := by kernel_rfl
theorem idsLaw : Keyed Tryz.prog 3 := Maps.int_keyed Tryz.underlying3
theorem MapB.made (w : World) : MapB (w.alloc (.map #[] 0)) w.heap.size 0 (fun _ => false) := ⟨_, World.ownsMap_made w _ _ _, IdsIs.empty⟩
theorem MapB.mono {w : World} {b n n' : Nat} {S : Int → Bool} (h : MapB w b n S) (hn : n ≤ n') : MapB w b n' S := by
  obtain ⟨D, h1, h2⟩ := h
  exact ⟨D, h1.mono hn, h2⟩
theorem MapB.kept {w w' : World} {b n : Nat} {S : Int → Bool} {row : Option Nat} (h : MapB w b n S) (hg : w.grownBy w' row) (hne : some b ≠ row) : MapB w' b n S := by
  obtain ⟨D, h1, h2⟩ := h
  exact ⟨D, h1.kept hg hne, h2⟩
theorem MapB.alloc {w : World} {b n : Nat} {S : Int → Bool} (h : MapB w b n S) (o : Obj) : MapB (w.alloc o) b n S := h.kept (World.grownBy_alloc w o none) (by simp)
theorem MapB.lt {w : World} {b n : Nat} {S : Int → Bool} (h : MapB w b n S) : b < w.heap.size := by
  obtain ⟨D, h1, _⟩ := h
  exact h1.lt
set_option maxRecDepth 100000 in
theorem MapB.look {w : World} {b n : Nat} {S : Int → Bool} (h : MapB w b n S) {x : Int} (hx : I64 x) :
    (Instr.lookup 144 (.map (some b)) (.int .i64 x) false).run Tryz.prog w = .ok (.bool (S x)) w := by
  obtain ⟨D, h1, h2⟩ := h
  obtain ⟨v, ps, hrun, hv⟩ := h1.lookup idsLaw Tryz.underlying144 (zeroBoolB w) (plainElem_bool Tryz.underlying4 false) (Maps.keyOf_int_mk Tryz.underlying3 (wf_i64 hx))
  obtain ⟨y, rfl, hy⟩ := plainElem_bool_inv Tryz.underlying4 hv
  rw [(h2.2 x hx).1] at hy
  injection hy with hy _
  injection hy with hy
  injection hy with hy
  rw [hrun, hy]
set_option maxRecDepth 100000 in
theorem MapB.put {w : World} {b n : Nat} {S : Int → Bool} (h : MapB w b n S) (hn : n < maxLen) {x : Int} (hx : I64 x) :
    ∃ w', (Instr.mapUpdate 144 (.map (some b)) (.int .i64 x) (.bool true)).run Tryz.prog w = .ok () w' ∧ MapB w' b (n + 1) (fun t => S t || decide (x = t)) ∧ w.grownBy w' (some b) := by
  obtain ⟨D, h1, h2⟩ := h
  have hkey := Maps.keyOf_int_mk Tryz.underlying3 (wf_i64 hx)
  obtain ⟨w', hrun, hm, hg⟩ := h1.update idsLaw Tryz.underlying144 hn hkey (plainElem_bool (H := Unit) Tryz.underlying4 true)
  exact ⟨w', hrun, ⟨_, hm, h2.put trivial⟩, hg⟩
theorem MapB.of_block {w w' : World} {b n : Nat} {S : Int → Bool} (h : MapB w b n S) (hb : w'.heap[b]? = w.heap[b]?) : MapB w' b n S := by
  obtain ⟨D, ⟨es, clock, h1, h2⟩, h3⟩ := h
  exact ⟨D, ⟨es, clock, hb.trans h1, h2⟩, h3⟩
theorem MapB.below {w w' : World} {b n : Nat} {S : Int → Bool} (h : MapB w b n S) (hb : Below w.heap.size w w') : MapB w' b n S := h.of_block (hb.block _ h.lt)
theorem MapB.is_map {w : World} {b n : Nat} {S : Int → Bool} (h : MapB w b n S) : ∃ es c, w.heap[b]? = some (.map es c) := by
  obtain ⟨D, ⟨es, clock, h1, _⟩, _⟩ := h
  exact ⟨es, clock, h1⟩
theorem Own.cells_of {w : World} {B : Nat} {e : TypeId} {sz n k : Nat} {v : Value} {xs : List Value} (ho : Own w B e sz v n xs) (h : v.ownBlock = some k) : ∃ c fr, w.heap[k]? = some (.cells c e fr) := by
  rcases ho.2 with ⟨rfl, _⟩ | ⟨g, o, cap, cur, rfl, _, hg, _⟩
  · simp [Value.ownBlock] at h
  · simp [Value.ownBlock] at h
    subst h
    exact ⟨_, _, hg⟩
/-- An append onto an owned row leaves the map as it is. -/
theorem MapB.grown {w w' : World} {b n m B : Nat} {S : Int → Bool} {e : TypeId} {sz : Nat} {v : Value} {xs : List Value} (h : MapB w b n S) (ho : Own w B e sz v m xs) (hg : w.grownBy w' v.ownBlock) : MapB w' b n S := by
  refine h.kept hg fun e' => ?_
  obtain ⟨es, c, h1⟩ := h.is_map
  obtain ⟨c2, fr, h2⟩ := ho.cells_of e'.symm
  rw [h1] at h2; cases h2
/-- What is put into a map leaves all cells as they are. -/
theorem MapB.same {w w' : World} {b n : Nat} {S : Int → Bool} (h : MapB w b n S) (hg : w.grownBy w' (some b)) (T : TypeId) : Same T w w' := fun k c fr hk => by
  refine (hg.block k (Array.getElem?_eq_some_iff.1 hk).1 fun e => ?_).trans hk
  injection e with e
  subst e
  obtain ⟨es, c2, h1⟩ := h.is_map
  rw [h1] at hk; cases hk
end Go.Proofs.YtngbbefpphinjaaGreatDoor

/- Plain: there and back: what the law DeltaBack asks of numbers and graphs. No condition. -/
namespace Go.Proofs.YtngbbefpphinjaaGreatDoor
open Go

/-- What delta.Diff answers; what delta.Turn does. -/
def diffE (a b : Grf) : Int := if grfE a = 0 then grfE b else grfE a
def diffR (a b : Grf) : List Opr := if diffE a b = 0 then diffL a b else []
def turnR (g : Grf) (l : List Opr) : List Opr := if dallE g l = 0 then diffL (dallG g l) g else []
theorem diffE_zero {a b : Grf} (h : diffE a b = 0) : grfE a = 0 ∧ grfE b = 0 := by
  unfold diffE at h
  split at h
  · rename_i h1; exact ⟨h1, h⟩
  · rename_i h1; exact absurd h h1
end Go.Proofs.YtngbbefpphinjaaGreatDoor

/- Contract: delta.Of: what is between two graphs, op by op. Conditions: both graphs are right. -/
namespace Go.Proofs.YtngbbefpphinjaaGreatDoor
open Go Go.RowKit



def looL (a b : Grf) (k : Nat) : List Opr := ((a.ties.take k).filter fun t => decide (t ∉ b.ties)).map looseOpr
def lostK (a b : Grf) (k : Nat) : List Int := ((a.nodes.take k).filter fun n => (keptN b n).isNone).map (·.id)
def gonL (a b : Grf) (k : Nat) : List Opr := ((a.nodes.take k).filter fun n => (keptN b n).isNone).map fun n => goneOpr n.id
def newL (a b : Grf) (k : Nat) : List Opr := ((b.nodes.take k).filter fun n => (keptN a n).isNone).map newOpr
def prsL (a b : Grf) (k : Nat) : List Opr := (a.nodes.take k).flatMap fun n => match keptN b n with | some o => propsL n o | none => []
def binL (a b : Grf) (k : Nat) : List Opr := ((b.ties.take k).filter fun t => decide (t ∉ a.ties ∨ t.src ∈ lostIds a b ∨ t.dst ∈ lostIds a b)).map bindOpr
theorem none_some {D : Type} (o : Option D) : o.isNone = !o.isSome := by cases o <;> rfl
theorem prs_snoc {a b : Grf} {k : Nat} {n : Nod} (h : a.nodes[k]? = some n) : prsL a b (k + 1) = prsL a b k ++ (match keptN b n with | some o => propsL n o | none => []) := by
  unfold prsL
  rw [List.take_add_one, h, List.flatMap_append]
  simp
theorem props_len (n o : Nod) : (propsL n o).length ≤ n.props.length + o.props.length := by
  unfold propsL
  rw [List.length_append, List.length_map, List.length_map]
  have h1 := List.length_filter_le (fun p => !rhas o.props p.name) n.props
  have h2 := List.length_filter_le (fun p => decide (p ∉ n.props)) o.props
  omega
theorem prs_len {a b : Grf} (ha : grfE a = 0) (hb : grfE b = 0) : ∀ k, (prsL a b k).length ≤ 16 * k
  | 0 => by simp [prsL]
  | k + 1 => by
    have ih := prs_len ha hb k
    cases hn : a.nodes[k]? with
    | none =>
      have : prsL a b (k + 1) = prsL a b k := by unfold prsL; rw [List.take_add_one, hn]; simp
      rw [this]; omega
    | some n =>
      rw [prs_snoc hn, List.length_append]
      cases hk : keptN b n with
      | none => simp; omega
      | some o =>
        have h1 := (rec_ok (nod_rec0 ha (List.mem_of_getElem? hn))).1
        have h2 := (rec_ok (nod_rec0 hb ((kept_iff hb).1 hk).1)).1
        have h3 := props_len n o
        simp only
        omega
theorem diff_parts (a b : Grf) : diffL a b = looL a b a.ties.length ++ gonL a b a.nodes.length ++ newL a b b.nodes.length ++ prsL a b a.nodes.length ++ binL a b b.ties.length := by
  unfold diffL looL gonL newL prsL binL lostIds
  simp only [List.take_length, List.map_map, List.append_assoc]
  rfl
theorem lost_all (a b : Grf) : lostK a b a.nodes.length = lostIds a b := by unfold lostK lostIds; rw [List.take_length]
set_option maxRecDepth 100000 in
set_option maxHeartbeats 32000000 in
theorem of_ops (a b : Grf) (va ta vb tb : Value) (w : World) (ha : GrfR w va ta a) (hb : GrfR w vb tb b) (h1 : grfE a = 0) (h2 : grfE b = 0) :
    Calls Tryz.prog 57 #[.agg #[va, ta], .agg #[vb, tb]] w fun e w' => ∃ v xs, e = .returned v ∧ OpsW w.heap.size w' v (diffL a b) xs ∧ Below w.heap.size w w' := by
  obtain ⟨i0, ei, ez, ez1, ez2⟩ := info_parts opr_info
  obtain ⟨la1, la2, la3, la4⟩ := grf_ok h1
  obtain ⟨lb1, lb2, lb3, lb4⟩ := grf_ok h2
  obtain ⟨A1, c1, rfl, _, _⟩ := ha.1.form
  obtain ⟨A2, c2, rfl, _, _⟩ := ha.2.form
  obtain ⟨A3, c3, rfl, _, _⟩ := hb.1.form
  obtain ⟨A4, c4, rfl, _, _⟩ := hb.2.form
  obtain ⟨W0, hW0⟩ : ∃ W0, W0 = (w.alloc (.cells #[.slice A1 a.nodes.length c1, .slice A2 a.ties.length c2] 25)).alloc (.cells #[.slice A3 b.nodes.length c3, .slice A4 b.ties.length c4] 25) := ⟨_, rfl⟩
  have hb0 : Below w.heap.size w W0 := by rw [hW0]; exact ((Below.refl _ _).alloc (Nat.le_refl _) _).alloc (by simp) _
  have g0 : W0.heap[w.heap.size]? = some (.cells #[.slice A1 a.nodes.length c1, .slice A2 a.ties.length c2] 25 (0, 0)) := by
    rw [hW0, Below.heap_alloc _ _ _ (by simp)]; exact heap_alloc_new _ _
  have g1 : W0.heap[w.heap.size + 1]? = some (.cells #[.slice A3 b.nodes.length c3, .slice A4 b.ties.length c4] 25 (0, 0)) := by
    have := heap_alloc_new (w.alloc (.cells #[.slice A1 a.nodes.length c1, .slice A2 a.ties.length c2] 25)) (.cells #[.slice A3 b.nodes.length c3, .slice A4 b.ties.length c4] 25); rw [hW0]; simpa using this
  have hW0' := hW0.symm
  have hw0 := hb0.size
  have X0 := Lib.hid (block_cell g0 0)
  have X1 := Lib.hid (block_cell g0 1)
  have Y0 := Lib.hid (block_cell g1 0)
  have Y1 := Lib.hid (block_cell g1 1)
  have HA := Lib.hid (ha.below hb0)
  have HB := Lib.hid (hb.below hb0)
  have HCA : Hid (∀ (t : Tie) W, Below W0.heap.size W0 W → Calls Tryz.prog 113 #[.slice A2 a.ties.length c2, .agg #[.string t.bond, .int .i64 t.src, .int .i64 t.dst]] W fun e w' => e = .returned (.bool (decide (t ∈ a.ties))) ∧ Below W.heap.size W w') := fun t W h => containsTie_any a.ties t _ W (HA.out.below h).2
  have HCB : Hid (∀ (t : Tie) W, Below W0.heap.size W0 W → Calls Tryz.prog 113 #[.slice A4 b.ties.length c4, .agg #[.string t.bond, .int .i64 t.src, .int .i64 t.dst]] W fun e w' => e = .returned (.bool (decide (t ∈ b.ties))) ∧ Below W.heap.size W w') := fun t W h => containsTie_any b.ties t _ W (HB.out.below h).2
  have HKA : Hid (∀ (n : Nod) (u : Value) W, Below W0.heap.size W0 W → Sl prpL W u n.props → Calls Tryz.prog 114 #[.agg #[.slice A1 a.nodes.length c1, .slice A2 a.ties.length c2], .agg #[.int .i64 n.id, .string n.kind, u]] W (KeptRet a n W)) := fun n u W h hu => kept_any a n _ _ u W (HA.out.below h) hu la3 la1
  have HKB : Hid (∀ (n : Nod) (u : Value) W, Below W0.heap.size W0 W → Sl prpL W u n.props → Calls Tryz.prog 114 #[.agg #[.slice A3 b.nodes.length c3, .slice A4 b.ties.length c4], .agg #[.int .i64 n.id, .string n.kind, u]] W (KeptRet b n W)) := fun n u W h hu => kept_any b n _ _ u W (HB.out.below h) hu lb3 lb1
  have HRA : Hid (∀ n ∈ a.nodes, recE n.props = 0) := fun n hn => nod_rec0 h1 hn
  have HRB : Hid (∀ n ∈ b.nodes, recE n.props = 0) := fun n hn => nod_rec0 h2 hn
  have HKM : Hid (∀ n m, keptN b n = some m → m ∈ b.nodes) := fun n m h => ((kept_iff h2).1 h).1
  have HPL : Hid (∀ k, (prsL a b k).length ≤ 16 * k) := prs_len h1 h2
  obtain ⟨B, hBe⟩ : ∃ B, B = W0.heap.size := ⟨_, rfl⟩
  clear ha hb hW0 g0 g1 la3 la4 lb3 lb4 h1 h2
  have x0 := X0.out
  have x1 := X1.out
  have y0 := Y0.out
  have y1 := Y1.out
  go_enter Tryz.func57, Tryz.ntmps57
  go_wp2_with fail
  clear hW0' x0 x1 y0 y1
  -- the ties that are not there any more
  go_loopw [4, 25] (fun ov i wr => ∃ (k : Nat) (xs : List Value), k ≤ a.ties.length ∧ i = .int .i64 k ∧ Below B W0 wr ∧ Hid (OpsW B wr ov (looL a b k) xs)) (fun _ i _ => a.ties.length - (intOf i).toNat)
  case atStart => exact ⟨0, [], Nat.zero_le _, rfl, Below.refl _ _, OpsW.nil (by omega)⟩
  case round =>
    obtain ⟨k, xs, hk, rfl, hbr, HO⟩ := hrel
    have hbr' : Below W0.heap.size W0 wr := by rw [← hBe]; exact hbr
    have x0 := cell_below hbr' X0.out
    have x1 := cell_below hbr' X1.out
    have y0 := cell_below hbr' Y0.out
    have y1 := cell_below hbr' Y1.out
    by_cases hlt : k < a.ties.length
    · obtain ⟨t, hp⟩ : ∃ d, a.ties[k]? = some d := ⟨_, List.getElem?_eq_getElem hlt⟩
      have hlt' : (k : Int) < (a.ties.length : Int) := by omega
      obtain ⟨gb, o, rfl, hpok, q0, q1, q2⟩ := tie_at (HA.out.below hbr').2 hp
      have hbk := heap_alloc_new wr (.cells #[.string t.bond, .int .i64 t.src, .int .i64 t.dst] 35)
      have ha1 : Below wr.heap.size wr (wr.alloc (.cells #[.string t.bond, .int .i64 t.src, .int .i64 t.dst] 35)) := (Below.refl _ _).alloc (Nat.le_refl _) _
      have HST : Hid (looL a b (k + 1) = looL a b k ++ (if decide (t ∉ b.ties) = true then [looseOpr t] else [])) := ofilt_snoc _ _ hp
      have hll : (looL a b k).length ≤ k := ofilt_len _ _ _ _
      have HPK := Lib.hid hpok
      clear hp hpok
      go_upto_region 4 with fail
      generalize wr.alloc (.cells #[.string t.bond, .int .i64 t.src, .int .i64 t.dst] 35) = wa at *
      have hWa := hbr'.trans (ha1.mono hbr'.size)
      have y1 := cell_below hWa Y1.out
      have z0 := block_cell hbk 0
      have z1 := block_cell hbk 1
      have z2 := block_cell hbk 2
      have hx := HCB.out t wa hWa
      have HOa := Lib.hid (HO.out.below ha1)
      have hBa := hbr.trans (ha1.mono HO.out.b)
      by_cases hm : t ∈ b.ties
      · have HN : Hid (looL a b (k + 1) = looL a b k) := by unfold Hid; rw [HST.out]; simp [hm]
        rw [decide_eq_true hm] at hx
        clear q0 q1 q2 x0 x1 y0 hbr hbr' HO ha1 hm HST
        go_wp2_with fail
        refine hx.mono ?_
        clear hx y1
        rintro e w2 ⟨rfl, hb2⟩
        go_wp2_with fail
        go_roundw
        case rel => exact ⟨k + 1, xs, by omega, by go_num, hBa.trans (hb2.mono HOa.out.b), by rw [HN.out]; exact HOa.out.below hb2⟩
        case measure => simp [intOf]; omega
      · have HN : Hid (looL a b (k + 1) = looL a b k ++ [looseOpr t]) := by unfold Hid; rw [HST.out]; simp [hm]
        rw [decide_eq_false hm] at hx
        clear q0 q1 q2 x0 x1 y0 hbr hbr' HO ha1 hm HST
        go_wp2_with fail
        refine hx.mono ?_
        clear hx y1
        rintro e w2 ⟨rfl, hb2⟩
        have z0 := cell_below hb2 z0
        have z1 := cell_below hb2 z1
        have z2 := cell_below hb2 z2
        have HO2 := Lib.hid (HOa.out.below hb2)
        have hB2 := hBa.trans (hb2.mono HOa.out.b)
        clear HOa hb2 hBa hbk
        -- an op more: 34, 37: the slots; looseOpr t: the op; .slice none 0 0: its record's value; w2: the world before it is built; looL a b k: the row of ops; xs: its cells; HO2: the Hid of OpsW there; $9: the bound on the row
        have hoa := (HO2).out.o.alloc (.cells (oprCells (looseOpr t) (.slice none 0 0)) 37)
        have hra := (HO2).out.r.below (Below.alloc (Below.refl _ _) (Nat.le_refl _) (.cells (oprCells (looseOpr t) (.slice none 0 0)) 37))
        have hsb := (HO2).out.b
        obtain ⟨nl, hnl⟩ : ∃ nl, (looL a b k).length = nl := ⟨_, rfl⟩
        have hnlb : nl ≤ 100000 := by omega
        rw [hnl] at hoa
        have HNL := Lib.hid hnl
        clear hnl
        obtain ⟨Ap, cp, hvp, hpc, hpm⟩ := hoa.form
        subst hvp
        have HNW : Hid (∀ j u, (oprCells (looseOpr t) (.slice none 0 0)).toList[j]? = some u → ((w2).alloc (.cells (oprCells (looseOpr t) (.slice none 0 0)) 37)).cell? ⟨(w2).heap.size, j, none⟩ = some u) := fun j u hj => by
          rw [World.cell?_alloc_at _ _ _ _ rfl]; simpa using hj
        have HOA := Lib.hid hoa
        have HRA := Lib.hid hra
        have HSB : Hid (B ≤ ((w2).alloc (.cells (oprCells (looseOpr t) (.slice none 0 0)) 37)).heap.size) := Nat.le_trans hsb (Below.alloc (Below.refl _ _) (Nat.le_refl _) (.cells (oprCells (looseOpr t) (.slice none 0 0)) 37)).size
        clear hoa hra
        go_wp2_with (first
          | (at_builtin; refine wpList_append_q _ rfl (.tmp 34) (.tmp 37) _ rfl B 37 i0 opr0 11 136 Tryz.underlying38 ei ez ez1 ez2 rfl (by decide) (.slice Ap nl cp) nl (xs) rfl HOA.out (some ⟨(w2).heap.size, 0, none⟩) 1 1 (oprCells (looseOpr t) (.slice none 0 0)).toList rfl rfl (fun _ => ⟨_, rfl, fun j u hj => by rw [addr_add, Nat.zero_add]; exact HNW.out j u hj⟩) (fun u hu => by simp [oprCells] at hu; rcases hu with rfl | rfl | rfl | rfl | rfl | rfl | rfl | rfl | rfl | rfl | rfl <;> rfl) (by unfold maxLen; omega) (by omega) HSB.out ?_; intro v7 w7 hown7 hg7 hat7))
        -- the op is there: looseOpr t: the op; .slice none 0 0: its record's value; i64_zero sm_empty prp0_ok HPK.out (OwnP.none _ _): the world before; $4: its record's OwnP (a term over 'B'); $5, $6, $7: the id's, the kind's, the property's, the tie's facts
        have hpush := OpsW.push HNL.out HOA.out HRA.out HSB.out (m := [looseOpr t]) (ys := (oprCells (looseOpr t) (.slice none 0 0)).toList) (OwnOps.one i64_zero sm_empty prp0_ok HPK.out (OwnP.none _ _)) hown7 hg7
        have hB7 : Below B W0 w7 := (hB2.alloc HO2.out.b _).trans hpush.2.1
        have HO7 : Hid (OpsW B w7 v7 (looL a b (k + 1)) (xs ++ (oprCells (looseOpr t) (.slice none 0 0)).toList)) := by unfold Hid; rw [HN.out]; exact hpush.1
        clear hpush hg7 hat7 hown7 HOA HRA HNW
        go_roundw
        case rel => exact ⟨k + 1, _, by omega, by go_num, hB7, HO7⟩
        case measure => simp [intOf]; omega
    · obtain rfl : k = a.ties.length := by omega
      have hll1 : (looL a b a.ties.length).length ≤ 120 := Nat.le_trans (ofilt_len _ _ _ _) la2
      have HE1 : Hid (∀ l, looL a b a.ties.length = l → diffL a b = l ++ gonL a b a.nodes.length ++ newL a b b.nodes.length ++ prsL a b a.nodes.length ++ binL a b b.ties.length) := fun l h => by rw [diff_parts, h]
      obtain ⟨l1, hl1⟩ : ∃ l, looL a b a.ties.length = l := ⟨_, rfl⟩
      have HE1 := Lib.hid (HE1.out l1 hl1)
      rw [hl1] at hll1 HO
      clear hl1
      have hmm := @run_makeMap Tryz.prog
      have hba : Below wr.heap.size wr (wr.alloc (.map #[] 0)) := (Below.refl _ _).alloc (Nat.le_refl _) _
      have HO1 : Hid (OpsW B (wr.alloc (.map #[] 0)) u4 (l1 ++ gonL a b 0) xs) := by
        have : gonL a b 0 = [] := by unfold gonL; rw [List.take_zero]; rfl
        unfold Hid; rw [this, List.append_nil]; exact HO.out.below hba
      have HM1 : Hid (MapB (wr.alloc (.map #[] 0)) wr.heap.size 0 (fun i => decide (i ∈ lostK a b 0))) := by
        have : lostK a b 0 = [] := by unfold lostK; rw [List.take_zero]; rfl
        rw [this]; exact MapB.made wr
      have hbr1 : Below B W0 (wr.alloc (.map #[] 0)) := hbr.trans (hba.mono HO.out.b)
      have hbm : B ≤ wr.heap.size := HO.out.b
      have x0 := cell_below hba x0
      have x1 := cell_below hba x1
      have y0 := cell_below hba y0
      have y1 := cell_below hba y1
      obtain ⟨bm, hbme⟩ : ∃ bm, bm = wr.heap.size := ⟨_, rfl⟩
      rw [← hbme] at hbm HM1
      clear HO hbr hbr'
      go_wp2_with fail
      rw [← hbme]
      generalize wr.alloc (.map #[] 0) = wm at *
      clear hmm x0 x1 y0 y1 hba hbme HCB
      -- the nodes that are not there any more
      go_loopw [4, 44] (fun ov i wr => ∃ (k : Nat) (xs : List Value), k ≤ a.nodes.length ∧ i = .int .i64 k ∧ Below B W0 wr ∧ Hid (OpsW B wr ov (l1 ++ gonL a b k) xs) ∧ Hid (MapB wr bm k (fun i => decide (i ∈ lostK a b k)))) (fun _ i _ => a.nodes.length - (intOf i).toNat)
      case atStart => exact ⟨0, xs, Nat.zero_le _, rfl, hbr1, HO1, HM1⟩
      case round =>
        clear HO1 HM1 hbr1
        obtain ⟨k, xs, hk, rfl, hbr, HO, HM⟩ := hrel
        have hbr' : Below W0.heap.size W0 wr := by rw [← hBe]; exact hbr
        have x0 := cell_below hbr' X0.out
        have x1 := cell_below hbr' X1.out
        have y0 := cell_below hbr' Y0.out
        have y1 := cell_below hbr' Y1.out
        by_cases hlt : k < a.nodes.length
        · obtain ⟨n, hp⟩ : ∃ d, a.nodes[k]? = some d := ⟨_, List.getElem?_eq_getElem hlt⟩
          have hlt' : (k : Int) < (a.nodes.length : Int) := by omega
          obtain ⟨gb, o, rfl, un, hid, hkd, hun, q0, q1, q2⟩ := nod_at (HA.out.below hbr').1 hp
          obtain ⟨An, cn, rfl, _, _⟩ := hun.form
          have hbk := heap_alloc_new wr (.cells #[.int .i64 n.id, .string n.kind, .slice An n.props.length cn] 29)
          have ha1 : Below wr.heap.size wr (wr.alloc (.cells #[.int .i64 n.id, .string n.kind, .slice An n.props.length cn] 29)) := (Below.refl _ _).alloc (Nat.le_refl _) _
          have HST : Hid (gonL a b (k + 1) = gonL a b k ++ (if (keptN b n).isNone = true then [goneOpr n.id] else [])) := ofilt_snoc _ _ hp
          have HSL : Hid (lostK a b (k + 1) = lostK a b k ++ (if (keptN b n).isNone = true then [n.id] else [])) := ofilt_snoc _ _ hp
          have hll : (gonL a b k).length ≤ k := ofilt_len _ _ _ _
          have hll2 : (l1 ++ gonL a b k).length ≤ 180 := by rw [List.length_append]; omega
          have HID := Lib.hid hid
          clear hp
          go_upto_region 11 with fail
          generalize wr.alloc (.cells #[.int .i64 n.id, .string n.kind, .slice An n.props.length cn] 29) = wa at *
          have hWa := hbr'.trans (ha1.mono hbr'.size)
          have y0 := cell_below hWa Y0.out
          have y1 := cell_below hWa Y1.out
          have z0 := block_cell hbk 0
          have z1 := block_cell hbk 1
          have z2 := block_cell hbk 2
          have HBK := Lib.hid hbk
          have hx := HKB.out n _ wa hWa (hun.below ha1)
          have HOa := Lib.hid (HO.out.below ha1)
          have HMa := Lib.hid (HM.out.below ha1)
          have hBa := hbr.trans (ha1.mono HO.out.b)
          have HNS := Lib.hid (none_some (keptN b n))
          unfold KeptRet at hx
          generalize keptD b n = kd at *
          generalize (keptN b n).isNone = isn at *
          generalize (keptN b n).isSome = bs at *
          clear q0 q1 q2 x0 x1 hbr hbr' HO HM ha1 hbk hun hid hkd
          go_wp2_with fail
          refine hx.mono ?_
          clear hx y0 y1
          rintro e w2 ⟨u2, rfl, hu2, hb2⟩
          obtain ⟨A9, c9, rfl, _, _⟩ := hu2.form
          clear hu2
          have hbk2 := (hb2.block _ (Array.getElem?_eq_some_iff.1 HBK.out).1).trans HBK.out
          have HO2 := Lib.hid (HOa.out.below hb2)
          have HM2 := Lib.hid (HMa.out.below hb2)
          have hB2 := hBa.trans (hb2.mono HOa.out.b)
          go_upto_region 12 with fail
          have ha3 : Below w2.heap.size w2 (w2.alloc (.cells #[.int .i64 kd.id, .string kd.kind, .slice A9 kd.props.length c9] 29)) := (Below.refl _ _).alloc (Nat.le_refl _) _
          generalize w2.alloc (.cells #[.int .i64 kd.id, .string kd.kind, .slice A9 kd.props.length c9] 29) = w3 at *
          have HO3 := Lib.hid (HO2.out.below ha3)
          have HM3 := Lib.hid (HM2.out.below ha3)
          have hB3 := hB2.trans (ha3.mono HO2.out.b)
          have hbk3 := (ha3.block _ (Array.getElem?_eq_some_iff.1 hbk2).1).trans hbk2
          clear HOa HMa hb2 hWa hBa HO2 HM2 hB2 hbk2 ha3 z0 z1 z2 HBK
          have hin : isn = !bs := HNS.out
          subst hin
          cases bs with
          | true =>
            have HN : Hid (gonL a b (k + 1) = gonL a b k) := by unfold Hid; rw [HST.out]; simp
            have HN2 : Hid (lostK a b (k + 1) = lostK a b k) := by unfold Hid; rw [HSL.out]; simp
            clear HST HSL hbk3
            go_wp2_with fail
            go_roundw
            case rel => exact ⟨k + 1, xs, by omega, by go_num, hB3, by rw [HN.out]; exact HO3, by rw [HN2.out]; exact HM3.out.mono (by omega)⟩
            case measure => simp [intOf]; omega
          | false =>
            have HN : Hid (gonL a b (k + 1) = gonL a b k ++ [goneOpr n.id]) := by unfold Hid; rw [HST.out]; rfl
            have HN2 : Hid (lostK a b (k + 1) = lostK a b k ++ [n.id]) := by unfold Hid; rw [HSL.out]; rfl
            have z0 := block_cell hbk3 0
            obtain ⟨w4, hput, hM4, hg4⟩ := HM3.out.put (by unfold maxLen; omega) HID.out
            have hSm := HM3.out.same hg4
            have HO4 : Hid (OpsW B w4 u4 (l1 ++ gonL a b k) xs) := HO3.out.put hSm hg4.size
            have hB4 : Below B W0 w4 := hB3.grown hg4 HO3.out.b (fun k e => by injection e with e; omega)
            have hbk4 := hSm 29 _ _ _ hbk3
            have HM4 : Hid (MapB w4 bm (k + 1) (fun i => decide (i ∈ lostK a b (k + 1)))) := by
              unfold Hid
              rw [HN2.out]
              have : (fun t => decide (t ∈ lostK a b k) || decide (n.id = t)) = fun i => decide (i ∈ lostK a b k ++ [n.id]) := by
                funext t
                rw [Bool.eq_iff_iff]
                simp only [List.mem_append, List.mem_singleton, Bool.or_eq_true, decide_eq_true_eq]
                exact or_congr Iff.rfl eq_comm
              rw [← this]; exact hM4
            have z4 := block_cell hbk4 0
            clear HST HSL hSm hg4 HM3 hM4 HO3 hB3 hbk3 hbk4
            -- an op more: 59, 64: the slots; goneOpr n.id: the op; .slice none 0 0: its record's value; w4: the world before it is built; l1 ++ gonL a b k: the row of ops; xs: its cells; HO4: the Hid of OpsW there; $9: the bound on the row
            have hoa := (HO4).out.o.alloc (.cells (oprCells (goneOpr n.id) (.slice none 0 0)) 37)
            have hra := (HO4).out.r.below (Below.alloc (Below.refl _ _) (Nat.le_refl _) (.cells (oprCells (goneOpr n.id) (.slice none 0 0)) 37))
            have hsb := (HO4).out.b
            obtain ⟨nl, hnl⟩ : ∃ nl, (l1 ++ gonL a b k).length = nl := ⟨_, rfl⟩
            have hnlb : nl ≤ 100000 := by omega
            rw [hnl] at hoa
            have HNL := Lib.hid hnl
            clear hnl
            obtain ⟨Ap, cp, hvp, hpc, hpm⟩ := hoa.form
            subst hvp
            have HNW : Hid (∀ j u, (oprCells (goneOpr n.id) (.slice none 0 0)).toList[j]? = some u → ((w4).alloc (.cells (oprCells (goneOpr n.id) (.slice none 0 0)) 37)).cell? ⟨(w4).heap.size, j, none⟩ = some u) := fun j u hj => by
              rw [World.cell?_alloc_at _ _ _ _ rfl]; simpa using hj
            have HOA := Lib.hid hoa
            have HRA := Lib.hid hra
            have HSB : Hid (B ≤ ((w4).alloc (.cells (oprCells (goneOpr n.id) (.slice none 0 0)) 37)).heap.size) := Nat.le_trans hsb (Below.alloc (Below.refl _ _) (Nat.le_refl _) (.cells (oprCells (goneOpr n.id) (.slice none 0 0)) 37)).size
            clear hoa hra
            go_wp2_with (first
              | (at_builtin; refine wpList_append_q _ rfl (.tmp 59) (.tmp 64) _ rfl B 37 i0 opr0 11 136 Tryz.underlying38 ei ez ez1 ez2 rfl (by decide) (.slice Ap nl cp) nl (xs) rfl HOA.out (some ⟨(w4).heap.size, 0, none⟩) 1 1 (oprCells (goneOpr n.id) (.slice none 0 0)).toList rfl rfl (fun _ => ⟨_, rfl, fun j u hj => by rw [addr_add, Nat.zero_add]; exact HNW.out j u hj⟩) (fun u hu => by simp [oprCells] at hu; rcases hu with rfl | rfl | rfl | rfl | rfl | rfl | rfl | rfl | rfl | rfl | rfl <;> rfl) (by unfold maxLen; omega) (by omega) HSB.out ?_; intro v7 w7 hown7 hg7 hat7))
            -- the op is there: goneOpr n.id: the op; .slice none 0 0: its record's value; HID.out sm_empty prp0_ok tie0_ok (OwnP.none _ _): the world before; $4: its record's OwnP (a term over 'B'); $5, $6, $7: the id's, the kind's, the property's, the tie's facts
            have hpush := OpsW.push HNL.out HOA.out HRA.out HSB.out (m := [goneOpr n.id]) (ys := (oprCells (goneOpr n.id) (.slice none 0 0)).toList) (OwnOps.one HID.out sm_empty prp0_ok tie0_ok (OwnP.none _ _)) hown7 hg7
            have hB7 : Below B W0 w7 := (hB4.alloc HO4.out.b _).trans hpush.2.1
            have HM7 := Lib.hid ((HM4.out.alloc (.cells (oprCells (goneOpr n.id) (.slice none 0 0)) 37)).grown HOA.out hg7)
            have HO7 : Hid (OpsW B w7 v7 (l1 ++ gonL a b (k + 1)) (xs ++ (oprCells (goneOpr n.id) (.slice none 0 0)).toList)) := by unfold Hid; rw [HN.out, ← List.append_assoc]; exact hpush.1
            clear hpush hg7 hat7 hown7 HOA HRA HNW hput
            go_roundw
            case rel => exact ⟨k + 1, _, by omega, by go_num, hB7, HO7, HM7⟩
            case measure => simp [intOf]; omega
        · obtain rfl : k = a.nodes.length := by omega
          have hll2 : (l1 ++ gonL a b a.nodes.length).length ≤ 180 := by have := ofilt_len (fun n : Nod => goneOpr n.id) (fun n => (keptN b n).isNone) a.nodes a.nodes.length; rw [List.length_append]; unfold gonL; omega
          have HS2 : Hid ((fun i => decide (i ∈ lostK a b a.nodes.length)) = fun i => decide (i ∈ lostIds a b)) := by unfold Hid; rw [lost_all]
          rw [HS2.out] at HM
          obtain ⟨l2, hl2⟩ : ∃ l, l1 ++ gonL a b a.nodes.length = l := ⟨_, rfl⟩
          have HE2 : Hid (diffL a b = l2 ++ newL a b b.nodes.length ++ prsL a b a.nodes.length ++ binL a b b.ties.length) := by unfold Hid; rw [HE1.out, hl2]
          rw [hl2] at hll2 HO
          have HO1 : Hid (OpsW B wr u4 (l2 ++ newL a b 0) xs) := by
            have : newL a b 0 = [] := by unfold newL; rw [List.take_zero]; rfl
            unfold Hid; rw [this, List.append_nil]; exact HO.out
          have HM1 := HM
          have hbr1 := hbr
          clear hl2 HE1 HS2 HO hbr hbr' HM
          go_wp2_with fail
          clear x0 x1 y0 y1
          -- the nodes that are new
          go_loopw [4, 70] (fun ov i wr => ∃ (k : Nat) (xs : List Value), k ≤ b.nodes.length ∧ i = .int .i64 k ∧ Below B W0 wr ∧ Hid (OpsW B wr ov (l2 ++ newL a b k) xs) ∧ Hid (MapB wr bm a.nodes.length (fun i => decide (i ∈ lostIds a b)))) (fun _ i _ => b.nodes.length - (intOf i).toNat)
          case atStart => exact ⟨0, xs, Nat.zero_le _, rfl, hbr1, HO1, HM1⟩
          case round =>
            clear HO1 HM1 hbr1
            obtain ⟨k, xs, hk, rfl, hbr, HO, HM⟩ := hrel
            have hbr' : Below W0.heap.size W0 wr := by rw [← hBe]; exact hbr
            have x0 := cell_below hbr' X0.out
            have x1 := cell_below hbr' X1.out
            have y0 := cell_below hbr' Y0.out
            have y1 := cell_below hbr' Y1.out
            by_cases hlt : k < b.nodes.length
            · obtain ⟨n, hp⟩ : ∃ d, b.nodes[k]? = some d := ⟨_, List.getElem?_eq_getElem hlt⟩
              have hlt' : (k : Int) < (b.nodes.length : Int) := by omega
              obtain ⟨gb, o, rfl, un, hid, hkd, hun, q0, q1, q2⟩ := nod_at (HB.out.below hbr').1 hp
              obtain ⟨An, cn, rfl, _, _⟩ := hun.form
              have hbk := heap_alloc_new wr (.cells #[.int .i64 n.id, .string n.kind, .slice An n.props.length cn] 29)
              have ha1 : Below wr.heap.size wr (wr.alloc (.cells #[.int .i64 n.id, .string n.kind, .slice An n.props.length cn] 29)) := (Below.refl _ _).alloc (Nat.le_refl _) _
              have HST : Hid (newL a b (k + 1) = newL a b k ++ (if (keptN a n).isNone = true then [newOpr n] else [])) := ofilt_snoc _ _ hp
              have hll : (newL a b k).length ≤ k := ofilt_len _ _ _ _
              have hll3 : (l2 ++ newL a b k).length ≤ 240 := by rw [List.length_append]; omega
              have HID := Lib.hid (And.intro hid hkd)
              have hnl := (rec_ok (HRB.out n (List.mem_of_getElem? hp))).1
              clear hp
              go_upto_region 19 with fail
              generalize wr.alloc (.cells #[.int .i64 n.id, .string n.kind, .slice An n.props.length cn] 29) = wa at *
              have hWa := hbr'.trans (ha1.mono hbr'.size)
              have x0 := cell_below hWa X0.out
              have x1 := cell_below hWa X1.out
              have z0 := block_cell hbk 0
              have z1 := block_cell hbk 1
              have z2 := block_cell hbk 2
              have HBK := Lib.hid hbk
              have hx := HKA.out n _ wa hWa (hun.below ha1)
              have HUN := Lib.hid (hun.below ha1)
              have HOa := Lib.hid (HO.out.below ha1)
              have HMa := Lib.hid (HM.out.below ha1)
              have hBa := hbr.trans (ha1.mono HO.out.b)
              have HNS := Lib.hid (none_some (keptN a n))
              unfold KeptRet at hx
              generalize keptD a n = kd at *
              generalize (keptN a n).isNone = isn at *
              generalize (keptN a n).isSome = bs at *
              clear q0 q1 q2 y0 y1 hbr hbr' HO HM ha1 hbk hun hid hkd
              go_wp2_with fail
              refine hx.mono ?_
              clear hx x0 x1
              rintro e w2 ⟨u2, rfl, hu2, hb2⟩
              obtain ⟨A9, c9, rfl, _, _⟩ := hu2.form
              clear hu2
              have hbk2 := (hb2.block _ (Array.getElem?_eq_some_iff.1 HBK.out).1).trans HBK.out
              have HO2 := Lib.hid (HOa.out.below hb2)
              have HM2 := Lib.hid (HMa.out.below hb2)
              have HU2 := Lib.hid (HUN.out.below hb2)
              have hB2 := hBa.trans (hb2.mono HOa.out.b)
              go_upto_region 20 with fail
              have ha3 : Below w2.heap.size w2 (w2.alloc (.cells #[.int .i64 kd.id, .string kd.kind, .slice A9 kd.props.length c9] 29)) := (Below.refl _ _).alloc (Nat.le_refl _) _
              generalize w2.alloc (.cells #[.int .i64 kd.id, .string kd.kind, .slice A9 kd.props.length c9] 29) = w3 at *
              have HO3 := Lib.hid (HO2.out.below ha3)
              have HM3 := Lib.hid (HM2.out.below ha3)
              have hu3 := HU2.out.below ha3
              have hB3 := hB2.trans (ha3.mono HO2.out.b)
              have hbk3 := (ha3.block _ (Array.getElem?_eq_some_iff.1 hbk2).1).trans hbk2
              clear HOa HMa hb2 hWa hBa HO2 HM2 hB2 hbk2 ha3 z0 z1 z2 HBK HUN HU2
              have hin : isn = !bs := HNS.out
              subst hin
              cases bs with
              | true =>
                have HN : Hid (newL a b (k + 1) = newL a b k) := by unfold Hid; rw [HST.out]; simp
                clear HST hbk3 hu3
                go_wp2_with fail
                go_roundw
                case rel => exact ⟨k + 1, xs, by omega, by go_num, hB3, by rw [HN.out]; exact HO3, HM3⟩
                case measure => simp [intOf]; omega
              | false =>
                have HN : Hid (newL a b (k + 1) = newL a b k ++ [newOpr n]) := by unfold Hid; rw [HST.out]; rfl
                have z0 := block_cell hbk3 0
                have z1 := block_cell hbk3 1
                have z2 := block_cell hbk3 2
                have hx := ownNode_any n _ w3 hu3 (by omega)
                clear HST hu3
                go_wp2_with fail
                refine hx.mono ?_
                clear hx z0 z1 z2
                rintro e w4 ⟨u4', rfl, hop, hb4⟩
                obtain ⟨Ao, co, rfl, _, _⟩ := hop.1.form
                have HO4 := Lib.hid (HO3.out.below hb4)
                have HM4 := Lib.hid (HM3.out.below hb4)
                have hB4 := hB3.trans (hb4.mono HO3.out.b)
                have HOP : Hid (∀ W, Same 33 w4 W → OwnP W B (.slice Ao n.props.length co) n.props) := fun W hs => ⟨(hop.1.same hs).mono HO3.out.b, hop.2⟩
                clear hop hb4 hB3 HO3 HM3 hbk3
                -- an op more: 82, 86: the slots; newOpr n: the op; .slice Ao n.props.length co: its record's value; w4: the world before it is built; l2 ++ newL a b k: the row of ops; xs: its cells; HO4: the Hid of OpsW there; $9: the bound on the row
                have hoa := (HO4).out.o.alloc (.cells (oprCells (newOpr n) (.slice Ao n.props.length co)) 37)
                have hra := (HO4).out.r.below (Below.alloc (Below.refl _ _) (Nat.le_refl _) (.cells (oprCells (newOpr n) (.slice Ao n.props.length co)) 37))
                have hsb := (HO4).out.b
                obtain ⟨nl, hnl⟩ : ∃ nl, (l2 ++ newL a b k).length = nl := ⟨_, rfl⟩
                have hnlb : nl ≤ 100000 := by omega
                rw [hnl] at hoa
                have HNL := Lib.hid hnl
                clear hnl
                obtain ⟨Ap, cp, hvp, hpc, hpm⟩ := hoa.form
                subst hvp
                have HNW : Hid (∀ j u, (oprCells (newOpr n) (.slice Ao n.props.length co)).toList[j]? = some u → ((w4).alloc (.cells (oprCells (newOpr n) (.slice Ao n.props.length co)) 37)).cell? ⟨(w4).heap.size, j, none⟩ = some u) := fun j u hj => by
                  rw [World.cell?_alloc_at _ _ _ _ rfl]; simpa using hj
                have HOA := Lib.hid hoa
                have HRA := Lib.hid hra
                have HSB : Hid (B ≤ ((w4).alloc (.cells (oprCells (newOpr n) (.slice Ao n.props.length co)) 37)).heap.size) := Nat.le_trans hsb (Below.alloc (Below.refl _ _) (Nat.le_refl _) (.cells (oprCells (newOpr n) (.slice Ao n.props.length co)) 37)).size
                clear hoa hra
                go_wp2_with (first
                  | (at_builtin; refine wpList_append_q _ rfl (.tmp 82) (.tmp 86) _ rfl B 37 i0 opr0 11 136 Tryz.underlying38 ei ez ez1 ez2 rfl (by decide) (.slice Ap nl cp) nl (xs) rfl HOA.out (some ⟨(w4).heap.size, 0, none⟩) 1 1 (oprCells (newOpr n) (.slice Ao n.props.length co)).toList rfl rfl (fun _ => ⟨_, rfl, fun j u hj => by rw [addr_add, Nat.zero_add]; exact HNW.out j u hj⟩) (fun u hu => by simp [oprCells] at hu; rcases hu with rfl | rfl | rfl | rfl | rfl | rfl | rfl | rfl | rfl | rfl | rfl <;> rfl) (by unfold maxLen; omega) (by omega) HSB.out ?_; intro v7 w7 hown7 hg7 hat7))
                -- the op is there: newOpr n: the op; .slice Ao n.props.length co: its record's value; HID.out.1 HID.out.2 prp0_ok tie0_ok (HOP.out _ (Same.alloc _ _)): the world before; $4: its record's OwnP (a term over 'B'); $5, $6, $7: the id's, the kind's, the property's, the tie's facts
                have hpush := OpsW.push HNL.out HOA.out HRA.out HSB.out (m := [newOpr n]) (ys := (oprCells (newOpr n) (.slice Ao n.props.length co)).toList) (OwnOps.one HID.out.1 HID.out.2 prp0_ok tie0_ok (HOP.out _ (Same.alloc _ _))) hown7 hg7
                have hB7 : Below B W0 w7 := (hB4.alloc HO4.out.b _).trans hpush.2.1
                have HM7 := Lib.hid ((HM4.out.alloc (.cells (oprCells (newOpr n) (.slice Ao n.props.length co)) 37)).grown HOA.out hg7)
                have HO7 : Hid (OpsW B w7 v7 (l2 ++ newL a b (k + 1)) (xs ++ (oprCells (newOpr n) (.slice Ao n.props.length co)).toList)) := by unfold Hid; rw [HN.out, ← List.append_assoc]; exact hpush.1
                clear hpush hg7 hat7 hown7 HOA HRA HNW
                go_roundw
                case rel => exact ⟨k + 1, _, by omega, by go_num, hB7, HO7, HM7⟩
                case measure => simp [intOf]; omega
            · obtain rfl : k = b.nodes.length := by omega
              have hll3 : (l2 ++ newL a b b.nodes.length).length ≤ 240 := by have := ofilt_len newOpr (fun n => (keptN a n).isNone) b.nodes b.nodes.length; rw [List.length_append]; unfold newL; omega
              obtain ⟨l3, hl3⟩ : ∃ l, l2 ++ newL a b b.nodes.length = l := ⟨_, rfl⟩
              have HE3 : Hid (diffL a b = l3 ++ prsL a b a.nodes.length ++ binL a b b.ties.length) := by unfold Hid; rw [HE2.out, hl3]
              rw [hl3] at hll3 HO
              have HO1 : Hid (OpsW B wr u4 (l3 ++ prsL a b 0) xs) := by
                have : prsL a b 0 = [] := by unfold prsL; rw [List.take_zero]; rfl
                unfold Hid; rw [this, List.append_nil]; exact HO.out
              have HM1 := HM
              have hbr1 := hbr
              clear hl3 HE2 HO hbr hbr' HM HKA
              go_wp2_with fail
              clear x0 x1 y0 y1
              -- the nodes that are kept
              go_loopw [4, 92] (fun ov i wr => ∃ (k : Nat) (xs : List Value), k ≤ a.nodes.length ∧ i = .int .i64 k ∧ Below B W0 wr ∧ Hid (OpsW B wr ov (l3 ++ prsL a b k) xs) ∧ Hid (MapB wr bm a.nodes.length (fun i => decide (i ∈ lostIds a b)))) (fun _ i _ => a.nodes.length - (intOf i).toNat)
              case atStart => exact ⟨0, xs, Nat.zero_le _, rfl, hbr1, HO1, HM1⟩
              case round =>
                clear HO1 HM1 hbr1
                obtain ⟨k, xs, hk, rfl, hbr, HO, HM⟩ := hrel
                have hbr' : Below W0.heap.size W0 wr := by rw [← hBe]; exact hbr
                have x0 := cell_below hbr' X0.out
                have x1 := cell_below hbr' X1.out
                have y0 := cell_below hbr' Y0.out
                have y1 := cell_below hbr' Y1.out
                by_cases hlt : k < a.nodes.length
                · obtain ⟨n, hp⟩ : ∃ d, a.nodes[k]? = some d := ⟨_, List.getElem?_eq_getElem hlt⟩
                  have hlt' : (k : Int) < (a.nodes.length : Int) := by omega
                  obtain ⟨gb, o, rfl, un, hid, hkd, hun, q0, q1, q2⟩ := nod_at (HA.out.below hbr').1 hp
                  obtain ⟨An, cn, rfl, _, _⟩ := hun.form
                  have hbk := heap_alloc_new wr (.cells #[.int .i64 n.id, .string n.kind, .slice An n.props.length cn] 29)
                  have ha1 : Below wr.heap.size wr (wr.alloc (.cells #[.int .i64 n.id, .string n.kind, .slice An n.props.length cn] 29)) := (Below.refl _ _).alloc (Nat.le_refl _) _
                  have HST : Hid (prsL a b (k + 1) = prsL a b k ++ (match keptN b n with | some o => propsL n o | none => [])) := prs_snoc hp
                  have HRN := Lib.hid (HRA.out n (List.mem_of_getElem? hp))
                  have hll4 : (l3 ++ prsL a b k).length ≤ 1200 := by have := HPL.out k; rw [List.length_append]; omega
                  have HID := Lib.hid (And.intro hid hkd)
                  have HKD : Hid ((keptN b n).isSome = true → (match keptN b n with | some o => propsL n o | none => []) = propsL n (keptD b n) ∧ keptD b n ∈ b.nodes) := fun h => by
                    unfold keptD
                    cases hq : keptN b n with
                    | none => rw [hq] at h; cases h
                    | some m => exact ⟨rfl, HKM.out n m hq⟩
                  have HKN : Hid ((keptN b n).isSome = false → (match keptN b n with | some o => propsL n o | none => []) = []) := fun h => by
                    cases hq : keptN b n with
                    | none => rfl
                    | some m => rw [hq] at h; cases h
                  clear hp
                  go_upto_region 26 with fail
                  generalize wr.alloc (.cells #[.int .i64 n.id, .string n.kind, .slice An n.props.length cn] 29) = wa at *
                  have hWa := hbr'.trans (ha1.mono hbr'.size)
                  have y0 := cell_below hWa Y0.out
                  have y1 := cell_below hWa Y1.out
                  have z0 := block_cell hbk 0
                  have z1 := block_cell hbk 1
                  have z2 := block_cell hbk 2
                  have HBK := Lib.hid hbk
                  have hx := HKB.out n _ wa hWa (hun.below ha1)
                  have HUN := Lib.hid (hun.below ha1)
                  have HOa := Lib.hid (HO.out.below ha1)
                  have HMa := Lib.hid (HM.out.below ha1)
                  have hBa := hbr.trans (ha1.mono HO.out.b)
                  unfold KeptRet at hx
                  generalize keptD b n = kd at *
                  generalize (keptN b n).isSome = bs at *
                  clear q0 q1 q2 x0 x1 hbr hbr' HO HM ha1 hbk hun hid hkd
                  go_wp2_with fail
                  refine hx.mono ?_
                  clear hx y0 y1
                  rintro e w2 ⟨u2, rfl, hu2, hb2⟩
                  obtain ⟨A9, c9, rfl, _, _⟩ := hu2.form
                  have hbk2 := (hb2.block _ (Array.getElem?_eq_some_iff.1 HBK.out).1).trans HBK.out
                  have HO2 := Lib.hid (HOa.out.below hb2)
                  have HM2 := Lib.hid (HMa.out.below hb2)
                  have HU2 := Lib.hid (HUN.out.below hb2)
                  have hB2 := hBa.trans (hb2.mono HOa.out.b)
                  go_upto_region 27 with fail
                  have ha3 : Below w2.heap.size w2 (w2.alloc (.cells #[.int .i64 kd.id, .string kd.kind, .slice A9 kd.props.length c9] 29)) := (Below.refl _ _).alloc (Nat.le_refl _) _
                  have hkb3 := heap_alloc_new w2 (.cells #[.int .i64 kd.id, .string kd.kind, .slice A9 kd.props.length c9] 29)
                  generalize w2.alloc (.cells #[.int .i64 kd.id, .string kd.kind, .slice A9 kd.props.length c9] 29) = w3 at *
                  have HO3 := Lib.hid (HO2.out.below ha3)
                  have HM3 := Lib.hid (HM2.out.below ha3)
                  have hu3 := HU2.out.below ha3
                  have hk3 := hu2.below ha3
                  have hB3 := hB2.trans (ha3.mono HO2.out.b)
                  have hbk3 := (ha3.block _ (Array.getElem?_eq_some_iff.1 hbk2).1).trans hbk2
                  clear HOa HMa hb2 hWa hBa HO2 HM2 hB2 hbk2 ha3 z0 z1 z2 HBK HUN HU2 hu2
                  cases bs with
                  | false =>
                    have HN : Hid (prsL a b (k + 1) = prsL a b k) := by unfold Hid; rw [HST.out, HKN.out rfl, List.append_nil]
                    clear HST hbk3 hu3 hk3 hkb3 HKD HKN
                    go_wp2_with fail
                    go_roundw
                    case rel => exact ⟨k + 1, xs, by omega, by go_num, hB3, by rw [HN.out]; exact HO3, HM3⟩
                    case measure => simp [intOf]; omega
                  | true =>
                    obtain ⟨hkd1, hkd2⟩ := HKD.out rfl
                    have HN : Hid (prsL a b (k + 1) = prsL a b k ++ propsL n kd) := by unfold Hid; rw [HST.out, hkd1]
                    have z0 := block_cell hbk3 0
                    have z1 := block_cell hbk3 1
                    have z2 := block_cell hbk3 2
                    have v0 := block_cell hkb3 0
                    have v1 := block_cell hkb3 1
                    have v2 := block_cell hkb3 2
                    have hx := props_any n kd _ _ w3 hu3 hk3 HID.out.1 HRN.out (HRB.out kd hkd2)
                    have hpl : (propsL n kd).length ≤ 16 := by
                      have h1 := (rec_ok HRN.out).1
                      have h2 := (rec_ok (HRB.out kd hkd2)).1
                      have h3 := props_len n kd
                      omega
                    generalize propsL n kd = pl at *
                    clear HST hu3 hk3 HKD HKN hkd1 hkd2
                    go_wp2_with fail
                    refine hx.mono ?_
                    clear hx z0 z1 z2 v0 v1 v2
                    rintro e w4 ⟨pv, ys, rfl, hP, hb4⟩
                    obtain ⟨Aq, cq, hvq, _, hqm⟩ := hP.o.form
                    subst hvq
                    have HO4 := Lib.hid (HO3.out.below hb4)
                    have HM4 := Lib.hid (HM3.out.below hb4)
                    have hB4 := hB3.trans (hb4.mono HO3.out.b)
                    have hOw := HO4.out.o
                    obtain ⟨nl, hnl⟩ : ∃ nl, (l3 ++ prsL a b k).length = nl := ⟨_, rfl⟩
                    obtain ⟨ml, hml⟩ : ∃ ml, pl.length = ml := ⟨_, rfl⟩
                    have hnlb : nl ≤ 100000 := by omega
                    have hmlb : ml ≤ 16 := by omega
                    rw [hnl] at hOw
                    obtain ⟨Ap, cp, hvp, hpc, hpm⟩ := hOw.form
                    subst hvp
                    have HNW : Hid (0 < ml → ∃ a, Aq = some a ∧ ∀ j u, ys[j]? = some u → w4.cell? (a.add j) = some u) := fun h => hP.cells (by omega)
                    have HOC := Lib.hid hP.r.one_cell
                    have HYL : Hid (ys.length = ml * 11) := by unfold Hid; rw [← hml]; exact hP.o.1
                    have HPR : Hid (OwnOps w4 B pl ys) := hP.r.mono HO3.out.b
                    have HNL := Lib.hid (And.intro hnl hml)
                    have HOW := Lib.hid hOw
                    have HBB := Lib.hid HO4.out.b
                    rw [hml]
                    clear hP hb4 hB3 HO3 HM3 hbk3 hkb3 hnl hml hOw hpl hll4
                    go_wp2_with (first
                      | (at_builtin; refine wpList_append_q _ rfl (.tmp 103) (.tmp 106) _ rfl B 37 i0 opr0 11 136 Tryz.underlying38 ei ez ez1 ez2 rfl (by decide) (.slice Ap nl cp) nl xs rfl HOW.out Aq ml cq ys rfl HYL.out HNW.out HOC.out (by unfold maxLen; omega) (by omega) HBB.out ?_; intro v7 w7 hown7 hg7 hat7))
                    have hpush := OpsW.push HNL.out.1 HOW.out HO4.out.r HBB.out (m := pl) (ys := ys) HPR.out (by rw [HNL.out.2]; exact hown7) hg7
                    have hB7 : Below B W0 w7 := hB4.trans hpush.2.1
                    have HM7 := Lib.hid (HM4.out.grown HOW.out hg7)
                    have HO7 : Hid (OpsW B w7 v7 (l3 ++ prsL a b (k + 1)) (xs ++ ys)) := by unfold Hid; rw [HN.out, ← List.append_assoc]; exact hpush.1
                    clear hpush hg7 hat7 hown7 HOW HPR HNW
                    go_roundw
                    case rel => exact ⟨k + 1, _, by omega, by go_num, hB7, HO7, HM7⟩
                    case measure => simp [intOf]; omega
                · obtain rfl : k = a.nodes.length := by omega
                  have hll4 : (l3 ++ prsL a b a.nodes.length).length ≤ 1200 := by have := HPL.out a.nodes.length; rw [List.length_append]; omega
                  obtain ⟨l4, hl4⟩ : ∃ l, l3 ++ prsL a b a.nodes.length = l := ⟨_, rfl⟩
                  have HE4 : Hid (diffL a b = l4 ++ binL a b b.ties.length) := by unfold Hid; rw [HE3.out, hl4]
                  rw [hl4] at hll4 HO
                  have HO1 : Hid (OpsW B wr u4 (l4 ++ binL a b 0) xs) := by
                    have : binL a b 0 = [] := by unfold binL; rw [List.take_zero]; rfl
                    unfold Hid; rw [this, List.append_nil]; exact HO.out
                  have HM1 := HM
                  have hbr1 := hbr
                  clear hl4 HE3 HO hbr hbr' HM HKB HPL HRA HRB HKM
                  go_wp2_with fail
                  clear x0 x1 y0 y1
                  -- the ties that are new
                  go_loopw [4, 112] (fun ov i wr => ∃ (k : Nat) (xs : List Value), k ≤ b.ties.length ∧ i = .int .i64 k ∧ Below B W0 wr ∧ Hid (OpsW B wr ov (l4 ++ binL a b k) xs) ∧ Hid (MapB wr bm a.nodes.length (fun i => decide (i ∈ lostIds a b)))) (fun _ i _ => b.ties.length - (intOf i).toNat)
                  case atStart => exact ⟨0, xs, Nat.zero_le _, rfl, hbr1, HO1, HM1⟩
                  case round =>
                    clear HO1 HM1 hbr1
                    obtain ⟨k, xs, hk, rfl, hbr, HO, HM⟩ := hrel
                    have hbr' : Below W0.heap.size W0 wr := by rw [← hBe]; exact hbr
                    have x0 := cell_below hbr' X0.out
                    have x1 := cell_below hbr' X1.out
                    have y0 := cell_below hbr' Y0.out
                    have y1 := cell_below hbr' Y1.out
                    by_cases hlt : k < b.ties.length
                    · obtain ⟨t, hp⟩ : ∃ d, b.ties[k]? = some d := ⟨_, List.getElem?_eq_getElem hlt⟩
                      have hlt' : (k : Int) < (b.ties.length : Int) := by omega
                      obtain ⟨gb, o, rfl, hpok, q0, q1, q2⟩ := tie_at (HB.out.below hbr').2 hp
                      have hbk := heap_alloc_new wr (.cells #[.string t.bond, .int .i64 t.src, .int .i64 t.dst] 35)
                      have ha1 : Below wr.heap.size wr (wr.alloc (.cells #[.string t.bond, .int .i64 t.src, .int .i64 t.dst] 35)) := (Below.refl _ _).alloc (Nat.le_refl _) _
                      have HST : Hid (binL a b (k + 1) = binL a b k ++ (if decide (t ∉ a.ties ∨ t.src ∈ lostIds a b ∨ t.dst ∈ lostIds a b) = true then [bindOpr t] else [])) := ofilt_snoc _ _ hp
                      have hll : (binL a b k).length ≤ k := ofilt_len _ _ _ _
                      have hll5 : (l4 ++ binL a b k).length ≤ 1400 := by rw [List.length_append]; omega
                      have HPK := Lib.hid hpok
                      clear hp hpok
                      go_upto_region 33 with fail
                      generalize wr.alloc (.cells #[.string t.bond, .int .i64 t.src, .int .i64 t.dst] 35) = wa at *
                      have hWa := hbr'.trans (ha1.mono hbr'.size)
                      have x1 := cell_below hWa X1.out
                      have z0 := block_cell hbk 0
                      have z1 := block_cell hbk 1
                      have z2 := block_cell hbk 2
                      have HBK := Lib.hid hbk
                      have hx := HCA.out t wa hWa
                      have HOa := Lib.hid (HO.out.below ha1)
                      have HMa := Lib.hid (HM.out.below ha1)
                      have hBa := hbr.trans (ha1.mono HO.out.b)
                      clear q0 q1 q2 x0 y0 y1 hbr hbr' HO HM ha1 hbk
                      by_cases hm : t ∈ a.ties
                      · rw [decide_eq_true hm] at hx
                        by_cases hs : t.src ∈ lostIds a b
                        · have HN : Hid (binL a b (k + 1) = binL a b k ++ [bindOpr t]) := by unfold Hid; rw [HST.out]; simp [hs]
                          go_wp2_with fail
                          refine hx.mono ?_
                          clear hx x1
                          rintro e w2 ⟨rfl, hb2⟩
                          have HO2 := Lib.hid (HOa.out.below hb2)
                          have HM2 := Lib.hid (HMa.out.below hb2)
                          have hB2 := hBa.trans (hb2.mono HOa.out.b)
                          have z0 := cell_below hb2 z0
                          have z1 := cell_below hb2 z1
                          have z2 := cell_below hb2 z2
                          have hk1 := HM2.out.look HPK.out.2.1
                          have hk2 := HM2.out.look HPK.out.2.2
                          clear HOa HMa hb2 hBa
                          rw [decide_eq_true hs] at hk1
                          clear hk2 hs hm HST
                          -- an op more: 133, 136: the slots; bindOpr t: the op; .slice none 0 0: its record's value; w2: the world before it is built; l4 ++ binL a b k: the row of ops; xs: its cells; HO2: the Hid of OpsW there; $9: the bound on the row
                          have hoa := (HO2).out.o.alloc (.cells (oprCells (bindOpr t) (.slice none 0 0)) 37)
                          have hra := (HO2).out.r.below (Below.alloc (Below.refl _ _) (Nat.le_refl _) (.cells (oprCells (bindOpr t) (.slice none 0 0)) 37))
                          have hsb := (HO2).out.b
                          obtain ⟨nl, hnl⟩ : ∃ nl, (l4 ++ binL a b k).length = nl := ⟨_, rfl⟩
                          have hnlb : nl ≤ 100000 := by omega
                          rw [hnl] at hoa
                          have HNL := Lib.hid hnl
                          clear hnl
                          obtain ⟨Ap, cp, hvp, hpc, hpm⟩ := hoa.form
                          subst hvp
                          have HNW : Hid (∀ j u, (oprCells (bindOpr t) (.slice none 0 0)).toList[j]? = some u → ((w2).alloc (.cells (oprCells (bindOpr t) (.slice none 0 0)) 37)).cell? ⟨(w2).heap.size, j, none⟩ = some u) := fun j u hj => by
                            rw [World.cell?_alloc_at _ _ _ _ rfl]; simpa using hj
                          have HOA := Lib.hid hoa
                          have HRA := Lib.hid hra
                          have HSB : Hid (B ≤ ((w2).alloc (.cells (oprCells (bindOpr t) (.slice none 0 0)) 37)).heap.size) := Nat.le_trans hsb (Below.alloc (Below.refl _ _) (Nat.le_refl _) (.cells (oprCells (bindOpr t) (.slice none 0 0)) 37)).size
                          clear hoa hra
                          go_wp2_with (first
                            | (at_builtin; refine wpList_append_q _ rfl (.tmp 133) (.tmp 136) _ rfl B 37 i0 opr0 11 136 Tryz.underlying38 ei ez ez1 ez2 rfl (by decide) (.slice Ap nl cp) nl (xs) rfl HOA.out (some ⟨(w2).heap.size, 0, none⟩) 1 1 (oprCells (bindOpr t) (.slice none 0 0)).toList rfl rfl (fun _ => ⟨_, rfl, fun j u hj => by rw [addr_add, Nat.zero_add]; exact HNW.out j u hj⟩) (fun u hu => by simp [oprCells] at hu; rcases hu with rfl | rfl | rfl | rfl | rfl | rfl | rfl | rfl | rfl | rfl | rfl <;> rfl) (by unfold maxLen; omega) (by omega) HSB.out ?_; intro v7 w7 hown7 hg7 hat7))
                          -- the op is there: bindOpr t: the op; .slice none 0 0: its record's value; i64_zero sm_empty prp0_ok HPK.out (OwnP.none _ _): the world before; $4: its record's OwnP (a term over 'B'); $5, $6, $7: the id's, the kind's, the property's, the tie's facts
                          have hpush := OpsW.push HNL.out HOA.out HRA.out HSB.out (m := [bindOpr t]) (ys := (oprCells (bindOpr t) (.slice none 0 0)).toList) (OwnOps.one i64_zero sm_empty prp0_ok HPK.out (OwnP.none _ _)) hown7 hg7
                          have hB7 : Below B W0 w7 := (hB2.alloc HO2.out.b _).trans hpush.2.1
                          have HM7 := Lib.hid ((HM2.out.alloc (.cells (oprCells (bindOpr t) (.slice none 0 0)) 37)).grown HOA.out hg7)
                          have HO7 : Hid (OpsW B w7 v7 (l4 ++ binL a b (k + 1)) (xs ++ (oprCells (bindOpr t) (.slice none 0 0)).toList)) := by unfold Hid; rw [HN.out, ← List.append_assoc]; exact hpush.1
                          clear hpush hg7 hat7 hown7 HOA HRA HNW
                          go_roundw
                          case rel => exact ⟨k + 1, _, by omega, by go_num, hB7, HO7, HM7⟩
                          case measure => simp [intOf]; omega
                        · by_cases hd : t.dst ∈ lostIds a b
                          · have HN : Hid (binL a b (k + 1) = binL a b k ++ [bindOpr t]) := by unfold Hid; rw [HST.out]; simp [hd]
                            go_wp2_with fail
                            refine hx.mono ?_
                            clear hx x1
                            rintro e w2 ⟨rfl, hb2⟩
                            have HO2 := Lib.hid (HOa.out.below hb2)
                            have HM2 := Lib.hid (HMa.out.below hb2)
                            have hB2 := hBa.trans (hb2.mono HOa.out.b)
                            have z0 := cell_below hb2 z0
                            have z1 := cell_below hb2 z1
                            have z2 := cell_below hb2 z2
                            have hk1 := HM2.out.look HPK.out.2.1
                            have hk2 := HM2.out.look HPK.out.2.2
                            clear HOa HMa hb2 hBa
                            rw [decide_eq_false hs] at hk1
                            rw [decide_eq_true hd] at hk2
                            clear hs hm hd HST
                            -- an op more: 133, 136: the slots; bindOpr t: the op; .slice none 0 0: its record's value; w2: the world before it is built; l4 ++ binL a b k: the row of ops; xs: its cells; HO2: the Hid of OpsW there; $9: the bound on the row
                            have hoa := (HO2).out.o.alloc (.cells (oprCells (bindOpr t) (.slice none 0 0)) 37)
                            have hra := (HO2).out.r.below (Below.alloc (Below.refl _ _) (Nat.le_refl _) (.cells (oprCells (bindOpr t) (.slice none 0 0)) 37))
                            have hsb := (HO2).out.b
                            obtain ⟨nl, hnl⟩ : ∃ nl, (l4 ++ binL a b k).length = nl := ⟨_, rfl⟩
                            have hnlb : nl ≤ 100000 := by omega
                            rw [hnl] at hoa
                            have HNL := Lib.hid hnl
                            clear hnl
                            obtain ⟨Ap, cp, hvp, hpc, hpm⟩ := hoa.form
                            subst hvp
                            have HNW : Hid (∀ j u, (oprCells (bindOpr t) (.slice none 0 0)).toList[j]? = some u → ((w2).alloc (.cells (oprCells (bindOpr t) (.slice none 0 0)) 37)).cell? ⟨(w2).heap.size, j, none⟩ = some u) := fun j u hj => by
                              rw [World.cell?_alloc_at _ _ _ _ rfl]; simpa using hj
                            have HOA := Lib.hid hoa
                            have HRA := Lib.hid hra
                            have HSB : Hid (B ≤ ((w2).alloc (.cells (oprCells (bindOpr t) (.slice none 0 0)) 37)).heap.size) := Nat.le_trans hsb (Below.alloc (Below.refl _ _) (Nat.le_refl _) (.cells (oprCells (bindOpr t) (.slice none 0 0)) 37)).size
                            clear hoa hra
                            go_wp2_with (first
                              | (at_builtin; refine wpList_append_q _ rfl (.tmp 133) (.tmp 136) _ rfl B 37 i0 opr0 11 136 Tryz.underlying38 ei ez ez1 ez2 rfl (by decide) (.slice Ap nl cp) nl (xs) rfl HOA.out (some ⟨(w2).heap.size, 0, none⟩) 1 1 (oprCells (bindOpr t) (.slice none 0 0)).toList rfl rfl (fun _ => ⟨_, rfl, fun j u hj => by rw [addr_add, Nat.zero_add]; exact HNW.out j u hj⟩) (fun u hu => by simp [oprCells] at hu; rcases hu with rfl | rfl | rfl | rfl | rfl | rfl | rfl | rfl | rfl | rfl | rfl <;> rfl) (by unfold maxLen; omega) (by omega) HSB.out ?_; intro v7 w7 hown7 hg7 hat7))
                            -- the op is there: bindOpr t: the op; .slice none 0 0: its record's value; i64_zero sm_empty prp0_ok HPK.out (OwnP.none _ _): the world before; $4: its record's OwnP (a term over 'B'); $5, $6, $7: the id's, the kind's, the property's, the tie's facts
                            have hpush := OpsW.push HNL.out HOA.out HRA.out HSB.out (m := [bindOpr t]) (ys := (oprCells (bindOpr t) (.slice none 0 0)).toList) (OwnOps.one i64_zero sm_empty prp0_ok HPK.out (OwnP.none _ _)) hown7 hg7
                            have hB7 : Below B W0 w7 := (hB2.alloc HO2.out.b _).trans hpush.2.1
                            have HM7 := Lib.hid ((HM2.out.alloc (.cells (oprCells (bindOpr t) (.slice none 0 0)) 37)).grown HOA.out hg7)
                            have HO7 : Hid (OpsW B w7 v7 (l4 ++ binL a b (k + 1)) (xs ++ (oprCells (bindOpr t) (.slice none 0 0)).toList)) := by unfold Hid; rw [HN.out, ← List.append_assoc]; exact hpush.1
                            clear hpush hg7 hat7 hown7 HOA HRA HNW
                            go_roundw
                            case rel => exact ⟨k + 1, _, by omega, by go_num, hB7, HO7, HM7⟩
                            case measure => simp [intOf]; omega
                          · have HN : Hid (binL a b (k + 1) = binL a b k) := by unfold Hid; rw [HST.out]; simp [hs, hm, hd]
                            go_wp2_with fail
                            refine hx.mono ?_
                            clear hx x1
                            rintro e w2 ⟨rfl, hb2⟩
                            have HO2 := Lib.hid (HOa.out.below hb2)
                            have HM2 := Lib.hid (HMa.out.below hb2)
                            have hB2 := hBa.trans (hb2.mono HOa.out.b)
                            have z0 := cell_below hb2 z0
                            have z1 := cell_below hb2 z1
                            have z2 := cell_below hb2 z2
                            have hk1 := HM2.out.look HPK.out.2.1
                            have hk2 := HM2.out.look HPK.out.2.2
                            clear HOa HMa hb2 hBa
                            rw [decide_eq_false hs] at hk1
                            rw [decide_eq_false hd] at hk2
                            clear hs hm hd HST
                            go_wp2_with fail
                            go_roundw
                            case rel => exact ⟨k + 1, xs, by omega, by go_num, hB2, by rw [HN.out]; exact HO2, HM2⟩
                            case measure => simp [intOf]; omega
                      · rw [decide_eq_false hm] at hx
                        have HN : Hid (binL a b (k + 1) = binL a b k ++ [bindOpr t]) := by unfold Hid; rw [HST.out]; simp [hm]
                        go_wp2_with fail
                        refine hx.mono ?_
                        clear hx x1
                        rintro e w2 ⟨rfl, hb2⟩
                        have HO2 := Lib.hid (HOa.out.below hb2)
                        have HM2 := Lib.hid (HMa.out.below hb2)
                        have hB2 := hBa.trans (hb2.mono HOa.out.b)
                        have z0 := cell_below hb2 z0
                        have z1 := cell_below hb2 z1
                        have z2 := cell_below hb2 z2
                        have hk1 := HM2.out.look HPK.out.2.1
                        have hk2 := HM2.out.look HPK.out.2.2
                        clear HOa HMa hb2 hBa
                        clear hk1 hk2 hm HST
                        -- an op more: 133, 136: the slots; bindOpr t: the op; .slice none 0 0: its record's value; w2: the world before it is built; l4 ++ binL a b k: the row of ops; xs: its cells; HO2: the Hid of OpsW there; $9: the bound on the row
                        have hoa := (HO2).out.o.alloc (.cells (oprCells (bindOpr t) (.slice none 0 0)) 37)
                        have hra := (HO2).out.r.below (Below.alloc (Below.refl _ _) (Nat.le_refl _) (.cells (oprCells (bindOpr t) (.slice none 0 0)) 37))
                        have hsb := (HO2).out.b
                        obtain ⟨nl, hnl⟩ : ∃ nl, (l4 ++ binL a b k).length = nl := ⟨_, rfl⟩
                        have hnlb : nl ≤ 100000 := by omega
                        rw [hnl] at hoa
                        have HNL := Lib.hid hnl
                        clear hnl
                        obtain ⟨Ap, cp, hvp, hpc, hpm⟩ := hoa.form
                        subst hvp
                        have HNW : Hid (∀ j u, (oprCells (bindOpr t) (.slice none 0 0)).toList[j]? = some u → ((w2).alloc (.cells (oprCells (bindOpr t) (.slice none 0 0)) 37)).cell? ⟨(w2).heap.size, j, none⟩ = some u) := fun j u hj => by
                          rw [World.cell?_alloc_at _ _ _ _ rfl]; simpa using hj
                        have HOA := Lib.hid hoa
                        have HRA := Lib.hid hra
                        have HSB : Hid (B ≤ ((w2).alloc (.cells (oprCells (bindOpr t) (.slice none 0 0)) 37)).heap.size) := Nat.le_trans hsb (Below.alloc (Below.refl _ _) (Nat.le_refl _) (.cells (oprCells (bindOpr t) (.slice none 0 0)) 37)).size
                        clear hoa hra
                        go_wp2_with (first
                          | (at_builtin; refine wpList_append_q _ rfl (.tmp 133) (.tmp 136) _ rfl B 37 i0 opr0 11 136 Tryz.underlying38 ei ez ez1 ez2 rfl (by decide) (.slice Ap nl cp) nl (xs) rfl HOA.out (some ⟨(w2).heap.size, 0, none⟩) 1 1 (oprCells (bindOpr t) (.slice none 0 0)).toList rfl rfl (fun _ => ⟨_, rfl, fun j u hj => by rw [addr_add, Nat.zero_add]; exact HNW.out j u hj⟩) (fun u hu => by simp [oprCells] at hu; rcases hu with rfl | rfl | rfl | rfl | rfl | rfl | rfl | rfl | rfl | rfl | rfl <;> rfl) (by unfold maxLen; omega) (by omega) HSB.out ?_; intro v7 w7 hown7 hg7 hat7))
                        -- the op is there: bindOpr t: the op; .slice none 0 0: its record's value; i64_zero sm_empty prp0_ok HPK.out (OwnP.none _ _): the world before; $4: its record's OwnP (a term over 'B'); $5, $6, $7: the id's, the kind's, the property's, the tie's facts
                        have hpush := OpsW.push HNL.out HOA.out HRA.out HSB.out (m := [bindOpr t]) (ys := (oprCells (bindOpr t) (.slice none 0 0)).toList) (OwnOps.one i64_zero sm_empty prp0_ok HPK.out (OwnP.none _ _)) hown7 hg7
                        have hB7 : Below B W0 w7 := (hB2.alloc HO2.out.b _).trans hpush.2.1
                        have HM7 := Lib.hid ((HM2.out.alloc (.cells (oprCells (bindOpr t) (.slice none 0 0)) 37)).grown HOA.out hg7)
                        have HO7 : Hid (OpsW B w7 v7 (l4 ++ binL a b (k + 1)) (xs ++ (oprCells (bindOpr t) (.slice none 0 0)).toList)) := by unfold Hid; rw [HN.out, ← List.append_assoc]; exact hpush.1
                        clear hpush hg7 hat7 hown7 HOA HRA HNW
                        go_roundw
                        case rel => exact ⟨k + 1, _, by omega, by go_num, hB7, HO7, HM7⟩
                        case measure => simp [intOf]; omega
                    · obtain rfl : k = b.ties.length := by omega
                      have HX : Hid (Below w.heap.size w wr) := hb0.trans (hbr'.mono hw0)
                      obtain ⟨Ap, cp, hvp, _, _⟩ := HO.out.o.form
                      subst hvp
                      clear x0 x1 y0 y1 hbr'
                      go_wp2_with fail
                      go_ret
                      exact ⟨_, _, rfl, by rw [HE4.out]; exact ⟨HO.out.o.mono (by omega), HO.out.r.mono (by omega), Nat.le_trans (by omega) HO.out.b⟩, HX.out⟩
end Go.Proofs.YtngbbefpphinjaaGreatDoor
