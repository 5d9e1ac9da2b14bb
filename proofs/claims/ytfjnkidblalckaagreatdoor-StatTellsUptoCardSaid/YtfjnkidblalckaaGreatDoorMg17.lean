/- Parts: RfP, SamA, Qg, IntS, LstA, KinK, KinL. -/
import Derived.Test.YtfjnkidblalckaaGreatDoorMg16
import Derived.Test.YtfjnkidblalckaaGreatDoorMg13
import Derived.Test.YtfjnkidblalckaaGreatDoorMg11
import Derived.Test.YtfjnkidblalckaaGreatDoorMg09
import Derived.Test.YtfjnkidblalckaaGreatDoorMg04
import Derived.Test.YtfjnkidblalckaaGreatDoorMg06
import Derived.Test.YtfjnkidblalckaaGreatDoorMg10
/- Contract of the reference: kinref2.Parts: the parts that hang together, of a graph that is right. -/
namespace Go.Proofs.YtfjnkidblalckaaGreatDoor
open Go Go.RowKit


/-- Marked up to place k. -/
def rMarkK (dn : List Bool) (fl : List Int) (k : Nat) : List Bool := (List.range dn.length).map fun j => dn.getD j false || (decide (j < k) && decide (0 ≤ fl.getD j 0))
theorem rMarkK_len (dn : List Bool) (fl : List Int) (k : Nat) : (rMarkK dn fl k).length = dn.length := by simp [rMarkK]
theorem rMarkK_at {dn : List Bool} {fl : List Int} {k j : Nat} (h : j < dn.length) : (rMarkK dn fl k)[j]? = some (dn.getD j false || (decide (j < k) && decide (0 ≤ fl.getD j 0))) := by
  unfold rMarkK; rw [List.getElem?_map, List.getElem?_range h]; rfl
theorem rMarkK_ext {dn : List Bool} {fl : List Int} {k : Nat} {l : List Bool} (hl : l.length = dn.length) (h : ∀ j, j < dn.length → l[j]? = some (dn.getD j false || (decide (j < k) && decide (0 ≤ fl.getD j 0)))) : rMarkK dn fl k = l := by
  apply List.ext_getElem?
  intro j
  by_cases hj : j < dn.length
  · rw [rMarkK_at hj, h j hj]
  · rw [List.getElem?_eq_none (by rw [rMarkK_len]; omega), List.getElem?_eq_none (by omega)]
theorem rMarkK_zero (dn : List Bool) (fl : List Int) : rMarkK dn fl 0 = dn := rMarkK_ext rfl fun j hj => by
  rw [List.getD_eq_getElem?_getD, List.getElem?_eq_getElem hj]; simp
theorem rMarkK_yes {dn : List Bool} {fl : List Int} {k : Nat} (hk : k < dn.length) (h : 0 ≤ fl.getD k 0) : rMarkK dn fl (k + 1) = (rMarkK dn fl k).set k true := rMarkK_ext (by rw [List.length_set, rMarkK_len]) fun j hj => by
  by_cases hjk : k = j
  · subst hjk
    rw [List.getElem?_set_self (by rw [rMarkK_len]; exact hk)]
    have : decide (k < k + 1) = true := decide_eq_true (by omega)
    rw [this, decide_eq_true h]; simp
  · rw [List.getElem?_set_ne hjk, rMarkK_at hj]
    have : decide (j < k) = decide (j < k + 1) := by
      by_cases h1 : j < k
      · rw [decide_eq_true h1, decide_eq_true (by omega)]
      · rw [decide_eq_false h1, decide_eq_false (by omega)]
    rw [this]
theorem rMarkK_no {dn : List Bool} {fl : List Int} {k : Nat} (h : ¬ 0 ≤ fl.getD k 0) : rMarkK dn fl (k + 1) = rMarkK dn fl k := rMarkK_ext (by rw [rMarkK_len]) fun j hj => by
  rw [rMarkK_at hj]
  by_cases hjk : j = k
  · subst hjk; rw [decide_eq_false h]; simp
  · have : decide (j < k) = decide (j < k + 1) := by
      by_cases h1 : j < k
      · rw [decide_eq_true h1, decide_eq_true (by omega)]
      · rw [decide_eq_false h1, decide_eq_false (by omega)]
    rw [this]
theorem rMarkK_all {dn : List Bool} {fl : List Int} {k : Nat} (h : dn.length = k) : rMarkK dn fl k = rMark dn fl := rMarkK_ext (by rw [rMark_len]) fun j hj => by
  have e : decide (j < k) = true := decide_eq_true (by omega)
  rw [e, Bool.true_and, ← rMark_get hj, List.getD_eq_getElem?_getD, List.getElem?_eq_getElem (by rw [rMark_len]; exact hj)]; rfl
theorem mapB_getD {l : List Bool} {k : Nat} (h : k < l.length) : (l.map Value.bool)[k]? = some (.bool (l.getD k false)) := by
  rw [List.getElem?_map, List.getD_eq_getElem?_getD, List.getElem?_eq_getElem h]; rfl
theorem Own.the_block {w : World} {B : Nat} {e : TypeId} {sz g o n c m : Nat} {xs : List Value} (h : Own w B e sz (.slice (some ⟨g, o, none⟩) n c) m xs) : ∃ cur, w.heap[g]? = some (.cells cur e (0, 0)) := by
  rcases h.2 with ⟨h0, _⟩ | ⟨g', o', cap, cur, hv, hb, hg, _⟩
  · cases h0
  · injection hv with e1 _ e3
    injection e1 with e1
    injection e1 with e1 e2
    subst e1
    exact ⟨cur, hg⟩
theorem OwnParts.same {w w' : World} {B : Nat} {us : List Value} {ls : List (List Int)} (h : OwnParts w B us ls) (hs : Same 3 w w') : OwnParts w' B us ls :=
  ⟨h.1, fun j u l hu hl => ⟨(h.2 j u l hu hl).1.same hs, (h.2 j u l hu hl).2⟩⟩
theorem boolp_info : (Tryz.prog.info? 4).map (fun i => (i.zero, i.size, i.bytes)) = some (some (.bool false), 1, 1) := by kernel_rfl

/-- What stands at the head of Parts' loop. -/
structure RpW (w1 wr : World) (n : Nat) (ov : Value) (us : List Value) (acc : List (List Int)) (dn : List Bool) : Prop where
  bel : Below w1.heap.size w1 wr
  out : Own wr w1.heap.size 31 1 ov acc.length us
  parts : OwnParts wr w1.heap.size us acc
  done : Own wr w1.heap.size 4 1 (.slice (some ⟨w1.heap.size, 0, none⟩) n n) n (dn.map .bool)
theorem RpW.below {w1 wr wx : World} {n : Nat} {ov : Value} {us : List Value} {acc : List (List Int)} {dn : List Bool} (h : RpW w1 wr n ov us acc dn) (hb : Below wr.heap.size wr wx) : RpW w1 wx n ov us acc dn :=
  ⟨h.bel.trans (hb.mono h.bel.size), h.out.below hb, h.parts.below hb, h.done.below hb⟩
theorem RpW.mark {w1 wr : World} {n : Nat} {ov : Value} {us : List Value} {acc : List (List Int)} {dn : List Bool} (h : RpW w1 wr n ov us acc dn) {k : Nat} (hk : k < n) :
    RpW w1 (wr.setCell ⟨w1.heap.size, k, none⟩ (.bool true)) n ov us acc (dn.set k true) ∧ Same 3 wr (wr.setCell ⟨w1.heap.size, k, none⟩ (.bool true)) := by
  obtain ⟨cur, hc⟩ := h.done.the_block
  have hS : ∀ T, 4 ≠ T → Same T wr (wr.setCell ⟨w1.heap.size, k, none⟩ (.bool true)) := fun T hT => Same.setCell (p := ⟨w1.heap.size, k, none⟩) hc hT _
  exact ⟨⟨h.bel.setCell (Nat.le_refl _) _, h.out.same (hS _ (by decide)), h.parts.same (hS _ (by decide)), by rw [List.map_set]; exact own_set0 h.done hk _⟩, hS _ (by decide)⟩

/-- All old blocks but b are as they were. -/
structure Kp (b : Nat) (w w' : World) : Prop where
  s : w.heap.size ≤ w'.heap.size
  k : ∀ k, k < w.heap.size → k ≠ b → w'.heap[k]? = w.heap[k]?
theorem Kp.refl (b : Nat) (w : World) : Kp b w w := ⟨Nat.le_refl _, fun _ _ _ => rfl⟩
theorem Kp.below {b : Nat} {w w' w'' : World} (h : Kp b w w') (hb : Below w'.heap.size w' w'') : Kp b w w'' :=
  ⟨Nat.le_trans h.s hb.size, fun k h1 h2 => (hb.block k (Nat.lt_of_lt_of_le h1 h.s)).trans (h.k k h1 h2)⟩
theorem Kp.set {b : Nat} {w w' : World} (h : Kp b w w') (i : Nat) (u : Value) : Kp b w (w'.setCell ⟨b, i, none⟩ u) :=
  ⟨by simpa [World.setCell] using h.s, fun k h1 h2 => (Below.heap_setCell w' ⟨b, i, none⟩ u k h2).trans (h.k k h1 h2)⟩
theorem Kp.grown {b : Nat} {w w' w'' : World} (h : Kp b w w') {e : TypeId} {sz n : Nat} {v : Value} {xs : List Value} (ho : Own w' w.heap.size e sz v n xs) (hg : w'.grownBy w'' v.ownBlock) : Kp b w w'' :=
  ⟨Nat.le_trans h.s hg.size, fun k h1 h2 => (hg.block k (Nat.lt_of_lt_of_le h1 h.s) fun e' => by have := (ho.lt k e'.symm).1; omega).trans (h.k k h1 h2)⟩
theorem Own.kp {b : Nat} {w w' : World} {B : Nat} {e e' : TypeId} {sz n : Nat} {v : Value} {xs : List Value} {c : Array Value} {fr : Nat × Nat} (h : Own w B e sz v n xs) (hk : Kp b w w') (hb : w.heap[b]? = some (.cells c e' fr)) (hne : e' ≠ e) : Own w' B e sz v n xs :=
  h.keep fun k hkk => hk.k k (h.lt k hkk).2 fun e1 => by
    have := h.ne_block hb hne
    rw [hkk, e1] at this
    exact this rfl
theorem OwnParts.kp {b : Nat} {w w' : World} {B : Nat} {us : List Value} {ls : List (List Int)} {c : Array Value} {fr : Nat × Nat} (h : OwnParts w B us ls) (hk : Kp b w w') (hb : w.heap[b]? = some (.cells c 4 fr)) : OwnParts w' B us ls :=
  ⟨h.1, fun j u l hu hl => ⟨(h.2 j u l hu hl).1.kp hk hb (by decide), (h.2 j u l hu hl).2⟩⟩

set_option maxRecDepth 100000 in
set_option maxHeartbeats 8000000 in
theorem rparts2_any (g : Grf) (vn vt : Value) (w : World) (hg : GrfR w vn vt g) (h0 : grfE g = 0) :
    Calls Tryz.prog 9 #[.agg #[vn, vt]] w fun e w' => ∃ v, e = .returned v ∧ Sl (slL intL) w' v (partsI g) ∧ Below w.heap.size w w' := by
  obtain ⟨hl, hlt, hch, hok⟩ := grf_ok h0
  obtain ⟨i0, hi, hz, hz1, hz2⟩ := info_parts int_info
  obtain ⟨j0, ji, jz, jz1, jz2⟩ := info_parts sl_info
  obtain ⟨m0, mi, mz, mz1, mz2⟩ := info_parts boolp_info
  obtain ⟨A, c, rfl, _, _⟩ := hg.1.form
  obtain ⟨A', c', rfl, _, _⟩ := hg.2.form
  have hmk : ∀ u : World, (Instr.makeSlice 68 (.int .i64 (g.nodes.length : Int)) (.int .i64 (g.nodes.length : Int))).run Tryz.prog u =
      .ok (.slice (some ⟨u.heap.size, 0, none⟩) g.nodes.length g.nodes.length) (u.alloc (.cells (madeCells #[.bool false] g.nodes.length) 4)) := fun u => by
    have h := run_make (P := Tryz.prog) u 68 4 m0 (.bool false) Tryz.underlying68 mi mz .i64 .i64 (g.nodes.length : Int) (g.nodes.length : Int) (by omega) (Int.le_refl _) (by rw [mz2]; omega) (by omega)
    simpa [mz1, Value.cells] using h
  obtain ⟨q0, q1⟩ := cell_box2 w (.slice A g.nodes.length c) (.slice A' g.ties.length c') 29
  have hb0 : Below w.heap.size w (w.alloc (.cells #[.slice A g.nodes.length c, .slice A' g.ties.length c'] 29)) := (Below.refl _ _).alloc (Nat.le_refl _) _
  have hW1 : (w.alloc (.cells #[.slice A g.nodes.length c, .slice A' g.ties.length c'] 29)).heap.size = w.heap.size + 1 := by simp
  have HPE : Hid (rPartsFrom g 0 g.nodes.length (List.replicate g.nodes.length false) [] = partsI g) := rparts_eq hch
  have HFR : Hid (∀ (i : Nat) (nd : Nod) (x : World), g.nodes[i]? = some nd → Below w.heap.size w x → Calls Tryz.prog 12 #[.agg #[.slice A g.nodes.length c, .slice A' g.ties.length c'], .int .i64 nd.id] x fun e w' => ∃ v, e = .returned v ∧ Own w' x.heap.size 3 1 v g.nodes.length ((farI g i).map (Value.int .i64)) ∧ Below x.heap.size x w') :=
    fun i nd x hnd hx => rfar2_any g _ _ x (hg.below hx) h0 i nd hnd
  have HFL : Hid (∀ i, i < g.nodes.length → (farI g i).length = g.nodes.length) := fun i h => farI_len h
  clear hok h0 hch
  go_enter Tryz.func9, Tryz.ntmps9
  go_wp2_with fail
  clear hmk
  generalize hW : w.alloc (.cells #[.slice A g.nodes.length c, .slice A' g.ties.length c'] 29) = W1 at q0 q1 hb0 hW1
  clear hW
  have hS0 : RpW W1 (W1.alloc (.cells (madeCells #[.bool false] g.nodes.length) 4)) g.nodes.length (.slice none 0 0) [] [] (List.replicate g.nodes.length false) := by
    refine ⟨(Below.refl _ _).alloc (Nat.le_refl _) _, Own.nil _ _ _ _, OwnParts.nil _ _, by simp, .inr ⟨W1.heap.size, 0, _, _, rfl, Nat.le_refl _, heap_alloc_new _ _, Nat.le_refl _, by unfold maxLen; omega, ?_, ?_⟩⟩
    · have : (madeCells #[Value.bool false] g.nodes.length).size = g.nodes.length := by rw [← Array.length_toList, toList_madeCells_one]; simp
      omega
    · rw [toList_madeCells_one]; simp
  rw [← hW1]
  have HW1 := Lib.hid hW1
  clear hW1
  go_loopw [3, 5] (fun ov i wr => ∃ (k : Nat) (us : List Value) (acc : List (List Int)) (dn : List Bool), k ≤ g.nodes.length ∧ i = .int .i64 k ∧ acc.length ≤ k ∧ dn.length = g.nodes.length ∧ RpW W1 wr g.nodes.length ov us acc dn ∧ Hid (rPartsFrom g k (g.nodes.length - k) dn acc = partsI g)) (fun _ i _ => g.nodes.length - (intOf i).toNat)
  case atStart => exact ⟨0, [], [], _, Nat.zero_le _, rfl, Nat.le_refl _, by simp, hS0, HPE⟩
  case round =>
    obtain ⟨k, us, acc, dn, hk, rfl, hak, hdn, hP, HR⟩ := hrel
    clear hS0
    have hbw : Below w.heap.size w wr := hb0.trans (hP.bel.mono hb0.size)
    have r0 := cell_below hP.bel q0
    have r1 := cell_below hP.bel q1
    have hwr : w.heap.size < wr.heap.size := by have := hP.bel.size; have := HW1.out; omega
    by_cases hk2 : k < g.nodes.length
    · obtain ⟨d, hd⟩ : ∃ d, g.nodes[k]? = some d := ⟨_, List.getElem?_eq_getElem hk2⟩
      have hk2' : (k : Int) < (g.nodes.length : Int) := by omega
      obtain ⟨b, o, rfl, u, _, _, _, x0, x1, x2⟩ := nod_at (hg.below hbw).1 hd
      have hdc : wr.cell? ⟨W1.heap.size, k, none⟩ = some (.bool (dn.getD k false)) := own_at0 hP.done (mapB_getD (by omega))
      have HS : Hid (rPartsFrom g k (g.nodes.length - k) dn acc = if dn.getD k false = true then rPartsFrom g (k + 1) (g.nodes.length - (k + 1)) dn acc else rPartsFrom g (k + 1) (g.nodes.length - (k + 1)) (rMark dn (farI g k)) (acc ++ [partOf g k])) := by
        have e1 : g.nodes.length - k = (g.nodes.length - (k + 1)) + 1 := by omega
        unfold Hid
        rw [e1]; rfl
      generalize dn.getD k false = bk at *
      cases bk with
      | true =>
        have HS2 : Hid (rPartsFrom g (k + 1) (g.nodes.length - (k + 1)) dn acc = partsI g) := by unfold Hid; rw [← HR.out, HS.out]; rfl
        clear HS HR hd
        go_wp2_with fail
        go_roundw
        case rel => exact ⟨k + 1, us, acc, dn, by omega, by go_num, by omega, hdn, hP, HS2⟩
        case measure => simp [intOf]; omega
      | false =>
        have HS2 : Hid (rPartsFrom g (k + 1) (g.nodes.length - (k + 1)) (rMark dn (farI g k)) (acc ++ [partOf g k]) = partsI g) := by unfold Hid; rw [← HR.out, HS.out]; rfl
        have HFK := Lib.hid (fun x => HFR.out k d x hd)
        have HL := Lib.hid (HFL.out k hk2)
        clear HS HR
        go_wp2_with fail
        refine wp_mid_k 7 _ rfl rfl (by kernel_rfl) (by kernel_rfl) ?_
        simp only [List.take_succ_cons, List.take_zero, List.drop_succ_cons, List.drop_zero]
        repeat (go_big_quiet_step (fail))
        refine wpQuiet_nil ?_
        intro _ hw'
        obtain ⟨nq, hw''⟩ := hw'
        subst hw''
        intro K hK
        have hx := HFK.out (wr.drewN nq) (below_drewN hbw _)
        go_wp2_with fail
        refine hx.mono ?_
        clear hx HFK
        rintro e w3 ⟨fv, rfl, hfo, hb3⟩
        obtain ⟨Af, cf, rfl, _, _⟩ := hfo.form
        refine hK _ _ ?_
        repeat (go_big_quiet_step (fail))
        refine wpQuiet_nil ?_
        intro _ hw'
        obtain ⟨nq2, hw''⟩ := hw'
        subst hw''
        clear hK
        have hb13 := below_drewN ((below_drewN (Below.refl wr.heap.size wr) nq).trans hb3) nq2
        have hfo4 : Own (w3.drewN nq2) (wr.drewN nq).heap.size 3 1 (.slice Af g.nodes.length cf) g.nodes.length ((farI g k).map (Value.int .i64)) := hfo.drewN nq2
        generalize w3.drewN nq2 = w4 at *
        have hP4 := hP.below hb13
        have hbw4 := hbw.trans (hb13.mono hbw.size)
        have r0 := cell_below hb13 r0
        have r1 := cell_below hb13 r1
        clear hb3 hfo hdc x0 x1 x2 hwr hbw
        obtain ⟨cur, hcur⟩ := hP4.done.the_block
        have hsz4 := hP4.bel.size
        have hlen : (0 : Int) < (g.nodes.length : Int) := by omega
        go_wp2_with fail
        go_loopw [7, 8] (fun pv i w5 => ∃ (k2 : Nat) (pa : List Int), k2 ≤ g.nodes.length ∧ i = .int .i64 k2 ∧ pa.length ≤ k2 ∧ Kp W1.heap.size w4 w5 ∧ Below W1.heap.size W1 w5 ∧ Own w5 w4.heap.size 3 1 pv pa.length (pa.map (Value.int .i64)) ∧
          Own w5 W1.heap.size 4 1 (.slice (some ⟨W1.heap.size, 0, none⟩) g.nodes.length g.nodes.length) g.nodes.length ((rMarkK dn (farI g k) k2).map .bool) ∧
          Hid (∀ x ∈ pa, I64 x) ∧ Hid (partOf g k = partFrom g (farI g k) k2 (g.nodes.length - k2) pa)) (fun _ i _ => g.nodes.length - (intOf i).toNat)
        case atStart => exact ⟨0, [], Nat.zero_le _, rfl, Nat.le_refl _, Kp.refl _ _, hP4.bel, Own.nil _ _ _ _, by rw [rMarkK_zero]; exact hP4.done, (by intro x hx; simp at hx), rfl⟩
        case round =>
          obtain ⟨k2, pa, hk3, rfl, hpk, hkp, hbel, hpo, hdo, HI, HP⟩ := hrel
          have hbw5 : Below w.heap.size w wr := hb0.trans (hbel.mono hb0.size)
          have s0 := cell_below hbel q0
          have s1 := cell_below hbel q1
          by_cases hk4 : k2 < g.nodes.length
          · obtain ⟨d2, hd2⟩ : ∃ d, g.nodes[k2]? = some d := ⟨_, List.getElem?_eq_getElem hk4⟩
            have hk4' : (k2 : Int) < (g.nodes.length : Int) := by omega
            obtain ⟨b2, o2, hA2, u2, hid2, _, _, y0, y1, y2⟩ := nod_at (hg.below hbw5).1 hd2
            injection hA2 with hA2
            injection hA2 with hA2 hA3
            subst hA2; subst hA3
            obtain ⟨gf, of, cf', hvf, _, _⟩ := hfo4.addr (by omega)
            injection hvf with hvf _ _
            subst hvf
            have hfo5 := hfo4.kp hkp hcur (by decide)
            obtain ⟨y, hy⟩ : ∃ y, (farI g k).getD k2 0 = y := ⟨_, rfl⟩
            have hcy : wr.cell? ⟨gf, of + k2, none⟩ = some (.int .i64 y) := by
              have := hfo5.cell rfl (map_getD (l := farI g k) (k := k2) (by rw [HL.out]; exact hk4))
              rw [hy] at this
              exact this
            have e2 : idAt g.nodes k2 = d2.id := by unfold idAt; rw [hd2]
            have HP2 : Hid (partOf g k = partFrom g (farI g k) (k2 + 1) (g.nodes.length - (k2 + 1)) (if 0 ≤ y then pa ++ [d2.id] else pa)) := by
              have e1 : g.nodes.length - k2 = (g.nodes.length - (k2 + 1)) + 1 := by omega
              unfold Hid
              rw [HP.out, e1, partFrom, e2, hy]
            have HMY : Hid (0 ≤ y → rMarkK dn (farI g k) (k2 + 1) = (rMarkK dn (farI g k) k2).set k2 true) := fun h => rMarkK_yes (by omega) (by rw [hy]; exact h)
            have HMN : Hid (¬ 0 ≤ y → rMarkK dn (farI g k) (k2 + 1) = rMarkK dn (farI g k) k2) := fun h => rMarkK_no (by rw [hy]; exact h)
            clear hd2 e2 hy HP hfo5
            have hsz := hkp.s
            by_cases hy0 : 0 ≤ y
            · have HP3 : Hid (partOf g k = partFrom g (farI g k) (k2 + 1) (g.nodes.length - (k2 + 1)) (pa ++ [d2.id])) := by unfold Hid; rw [HP2.out, if_pos hy0]
              have HI2 : Hid (∀ x ∈ pa ++ [d2.id], I64 x) := by
                intro x hx
                rcases List.mem_append.1 hx with h | h
                · exact HI.out x h
                · simp at h; subst h; exact hid2
              have hy0' : decide (0 ≤ y) = true := by simpa using hy0
              have HMK := Lib.hid (HMY.out hy0)
              obtain ⟨Ap, cp, rfl, hpc, hpm⟩ := hpo.form
              have hpo2 := hpo.alloc (.cells #[.int .i64 d2.id] 3)
              have hdo2 := hdo.alloc (.cells #[.int .i64 d2.id] 3)
              have hml : k2 < (rMarkK dn (farI g k) k2).length := by rw [rMarkK_len]; omega
              clear HP2 HMY HMN
              go_wp2_with (first
                | (at_builtin; refine wpList_append_q _ rfl (.tmp 43) (.tmp 50) _ rfl w4.heap.size 3 i0 (.int .i64 0) 1 8 Tryz.underlying31 hi hz hz1 hz2 rfl (by decide) (.slice Ap pa.length cp) pa.length (pa.map (Value.int .i64)) rfl hpo2 (some ⟨wr.heap.size, 0, none⟩) 1 1 [.int .i64 d2.id] rfl rfl (fun _ => ⟨_, rfl, cell_one_new wr (.int .i64 d2.id) 3⟩) (by simp [Value.oneCell']) (by unfold maxLen; omega) (by omega) (by simp; omega) ?_; intro v7 w7 hown7 hg7 hat7
                   have hdo7 := hdo2.grown hg7 (hdo2.ne_type hpo2 (by decide))
                   have hc7 := own_at0 hdo7 (mapB_getD hml)
                   have hf7 := hdo7.frozen rfl k2))
              have hkx : Kp W1.heap.size w4 (wr.alloc (.cells #[.int .i64 d2.id] 3)) := hkp.below ((Below.refl _ _).alloc (Nat.le_refl _) _)
              have hk7 := (hkx.grown hpo2 hg7).set k2 (.bool true)
              have hbs := hbel.size
              have hb7 : Below W1.heap.size W1 (w7.setCell ⟨W1.heap.size, k2, none⟩ (.bool true)) := ((hbel.alloc hbs _).grown hg7 (by simp; omega) (fun kk hkk => by have := (hpo2.lt kk hkk).1; have := hP4.bel.size; omega)).setCell (Nat.le_refl _) _
              obtain ⟨cu7, hcu7⟩ := hdo7.the_block
              have ho7 : Own (w7.setCell ⟨W1.heap.size, k2, none⟩ (.bool true)) w4.heap.size 3 1 v7 (pa ++ [d2.id]).length ((pa ++ [d2.id]).map (Value.int .i64)) := by
                have h1 : Own w7 w4.heap.size 3 1 v7 (pa ++ [d2.id]).length ((pa ++ [d2.id]).map (Value.int .i64)) := by simpa using hown7
                exact h1.same (Same.setCell (p := ⟨W1.heap.size, k2, none⟩) hcu7 (by decide) _)
              have hd7 : Own (w7.setCell ⟨W1.heap.size, k2, none⟩ (.bool true)) W1.heap.size 4 1 (.slice (some ⟨W1.heap.size, 0, none⟩) g.nodes.length g.nodes.length) g.nodes.length ((rMarkK dn (farI g k) (k2 + 1)).map .bool) := by
                rw [HMK.out, List.map_set]; exact own_set0 hdo7 hk4 _
              have hl7 : (pa ++ [d2.id]).length ≤ k2 + 1 := by simp; omega
              clear hg7 hat7 hown7 hdo7 hc7 hf7
              go_roundw
              case rel => exact ⟨k2 + 1, by omega, by go_num, pa ++ [d2.id], hl7, hk7, hb7, ho7, hd7, HI2, HP3⟩
              case measure => simp [intOf]; omega
            · have HP3 : Hid (partOf g k = partFrom g (farI g k) (k2 + 1) (g.nodes.length - (k2 + 1)) pa) := by unfold Hid; rw [HP2.out, if_neg hy0]
              have hy0' : decide (0 ≤ y) = false := by simpa using hy0
              have hy1 : y < 0 := by omega
              have hd7 : Own wr W1.heap.size 4 1 (.slice (some ⟨W1.heap.size, 0, none⟩) g.nodes.length g.nodes.length) g.nodes.length ((rMarkK dn (farI g k) (k2 + 1)).map .bool) := by
                rw [HMN.out hy0]; exact hdo
              clear HP2 HMY HMN hdo
              go_wp2_with fail
              go_roundw
              case rel => exact ⟨k2 + 1, pa, by omega, by go_num, by omega, hkp, hbel, hpo, hd7, HI, HP3⟩
              case measure => simp [intOf]; omega
          · obtain rfl : k2 = g.nodes.length := by omega
            have HQ : Hid (partOf g k = pa) := by unfold Hid; rw [HP.out, Nat.sub_self]; rfl
            have hou := hP4.out.kp hkp hcur (by decide)
            have hpa0 := hP4.parts.kp hkp hcur
            have hbs := hbel.size
            obtain ⟨Ap, cp, rfl, hpc, hpm⟩ := hpo.form
            obtain ⟨Ao, co, rfl, hoc, hom⟩ := hou.form
            have ho4 := hou.alloc (.cells #[.slice Ap pa.length cp] 31)
            have HMA : Hid (rMarkK dn (farI g k) g.nodes.length = rMark dn (farI g k)) := rMarkK_all hdn
            rw [HMA.out] at hdo
            have hdo2 := hdo.alloc (.cells #[.slice Ap pa.length cp] 31)
            clear HP hP4 HMA
            go_wp2_with (first
              | (at_builtin; refine wpList_append_q _ rfl (.tmp 55) (.tmp 57) _ rfl W1.heap.size 31 j0 (.slice none 0 0) 1 24 Tryz.underlying50 ji jz jz1 jz2 rfl (by decide) (.slice Ao acc.length co) acc.length us rfl ho4 (some ⟨wr.heap.size, 0, none⟩) 1 1 [.slice Ap pa.length cp] rfl rfl (fun _ => ⟨_, rfl, cell_one_new wr (.slice Ap pa.length cp) 31⟩) (by simp [Value.oneCell']) (by unfold maxLen; omega) (by omega) (by simp; omega) ?_; intro v7 w7 hown7 hg7 hat7))
            have hpa : Own wr W1.heap.size 3 1 (.slice Ap pa.length cp) pa.length (pa.map (Value.int .i64)) := hpo.mono hsz4
            have hbb : Below wr.heap.size wr (wr.alloc (.cells #[.slice Ap pa.length cp] 31)) := (Below.refl _ _).alloc (Nat.le_refl _) _
            have hP7 : RpW W1 w7 g.nodes.length v7 (us ++ [.slice Ap pa.length cp]) (acc ++ [pa]) (rMark dn (farI g k)) := by
              refine ⟨(hbel.alloc hbs _).grown hg7 (by simp; omega) (fun kk hkk => (hou.lt kk hkk).1), by simpa using hown7, ?_, hdo2.grown hg7 (hdo2.ne_type ho4 (by decide))⟩
              exact ((hpa0.push hpa HI.out).below hbb).grown ho4 hg7
            have HS3 : Hid (rPartsFrom g (k + 1) (g.nodes.length - (k + 1)) (rMark dn (farI g k)) (acc ++ [pa]) = partsI g) := by have := HS2.out; rw [HQ.out] at this; exact this
            have hl7 : (acc ++ [pa]).length ≤ k + 1 := by simp; omega
            have hdl : (rMark dn (farI g k)).length = g.nodes.length := by rw [rMark_len]; exact hdn
            clear hg7 hat7 hown7 HS2 HQ
            go_roundw
            case rel => exact ⟨k + 1, _, _, _, by omega, by go_num, hl7, hdl, hP7, HS3⟩
            case measure => simp [intOf]; omega
    · obtain rfl : k = g.nodes.length := by omega
      have HE : Hid (partsI g = acc) := by unfold Hid; rw [← HR.out, Nat.sub_self]; rfl
      have hSl := hP.parts.sl hP.out
      have HX := Lib.hid (And.intro hSl hbw)
      obtain ⟨Ao, co, rfl, _, _⟩ := hSl.form
      clear hSl hP HR hbw
      go_wp2_with fail
      go_ret
      exact ⟨_, rfl, by rw [HE.out]; exact HX.out.1, HX.out.2⟩
end Go.Proofs.YtfjnkidblalckaaGreatDoor

/- Contracts: kinsame.Texts, kinsame.Fields. No condition. -/
namespace Go.Proofs.YtfjnkidblalckaaGreatDoor
open Go Go.RowKit


theorem drewN_step {w wr : World} (h : ∃ m, wr = w.drewN m) (n : Nat) : ∃ m, wr.drewN n = w.drewN m := by
  obtain ⟨m, rfl⟩ := h
  exact ⟨m + n, World.drewN_drewN ..⟩
/-- Two lists, place by place. -/
theorem lists_eq {D : Type} [DecidableEq D] {a b : List D} (hl : a.length = b.length) (h : ∀ j x y, j < a.length → a[j]? = some x → b[j]? = some y → x = y) : a = b := by
  apply List.ext_getElem? 
  intro i
  by_cases hi : i < a.length
  · have h1 := List.getElem?_eq_getElem hi
    have h2 : b[i]? = some b[i] := List.getElem?_eq_getElem (by omega)
    rw [h1, h2, h i _ _ hi h1 h2]
  · rw [List.getElem?_eq_none (by omega), List.getElem?_eq_none (by omega)]
end Go.Proofs.YtfjnkidblalckaaGreatDoor

/- As Qm: the operation in the middle may be guarded; its guard lets it be done. Conditions: the Bool on the region. -/
namespace Go.Proofs.YtfjnkidblalckaaGreatDoor
open Go Go.RowKit Go.Sort
section
variable {P : Program} {ops : Array Oper} {md : Region.Mode} {C : World → Prop}
theorem wp_region_midg {id : Nat} {Q : Exit → Act → World → Prop} {a : Act} {w : World} {l : List Oper} (n : Nat) (om : Oper) (hom : l[n]? = some om) (hm : P.follows .mixedOrders = true) (hB : midB .any l.toArray n = true)
    (hC : C { w with drawn := w.drawn + 1 })
    (h : wpQuiet P l.toArray C (fun a' => Region.wanted om (yielded l.toArray a'.tmps) = true ∧ ∀ w', C w' → om.wp P a' w' (fun a2 w2 => wpQuiet P l.toArray (fun x => ∃ n, x = w2.drewN n) (fun a3 => ∀ w3, (∃ n, w3 = w2.drewN n) → Q .normal a3 w3) (l.drop (n + 1)) a2) Q) (l.take n) a) : (Code.region id l.toArray true).wp P Q a w := by
  simp only [midB, Bool.and_eq_true, decide_eq_true_eq] at hB
  obtain ⟨⟨⟨⟨hsel, hn⟩, hs⟩, hc⟩, hlex⟩ := hB
  have hn' : n < l.length := by simpa using hn
  have htl : (l.take n).length = n := by simp; omega
  have hdl : (l.drop (n + 1)).length = l.toArray.size - n - 1 := by simp; omega
  have inv0 : HeadInv .any l.toArray n (Array.replicate l.toArray.size false) :=
    ⟨by simp, fun j oj _ hl => (by rw [getD_replicate_false] at hl; cases hl), fun t _ ht => getD_in (by simpa using ht) (getD_replicate_false _ _)⟩
  have H := wpAnyLQ_lex2 (C := C) (md := .any) (g := l.toArray.size - n - 1) hsel hs hc hn (l.take n) 0 _ a (fun j hj => by
    have hj' : j < n := by rw [htl] at hj; exact hj
    simp [hj']) (by simpa using htl) inv0 (by rw [htl]; exact hlex) h
  refine wp_region_any hm ?_
  have key := wpAny_of_headQ (C := C) (Q' := Q) (g := l.toArray.size - n - 1 + 1) (fun listed a' w' hw' hL => by
    have h1 := hL.1
    simp only [midRest, Bool.and_eq_true, decide_eq_true_eq] at h1
    refine ⟨fun h0 => (by rw [h1.1] at h0; cases h0), fun i hi => ?_⟩
    rw [h1.1] at hi
    obtain rfl : i = n := by simpa using hi
    have h0 : l.toArray[i]? = some om := by simpa using hom
    unfold wpOp
    simp only [h0]
    have hw := hL.2.1
    simp only [hw, if_true]
    refine .inl ?_
    have h2 := hL.2.2 w' hw'
    unfold Oper.wp at h2 ⊢
    generalize (execOp a'.eval om).run P w' = r at h2 ⊢
    have step : ∀ a2 w2, wpQuiet P l.toArray (fun x => ∃ n, x = w2.drewN n) (fun a3 => ∀ w3, (∃ n, w3 = w2.drewN n) → Q .normal a3 w3) (l.drop (i + 1)) a2 →
        wpAny P .any l.toArray Q (l.toArray.size - i - 1) (listed.setIfInBounds i true) a2 w2 := fun a2 w2 hq => by
      have h3 := wpAnyQ_lex (C := fun x => ∃ n, x = w2.drewN n) (md := .any) hsel (l.drop (i + 1)) (i + 1) (listed.setIfInBounds i true) a2 (fun j => by simp [List.getElem?_drop]) (by rw [hdl]; exact h1.2) hq
      rw [hdl] at h3
      exact wpAny_of_quiet (Q := fun a3 => ∀ w3, (∃ n, w3 = w2.drewN n) → Q .normal a3 w3) (fun _ w3 hw3 h => h w3 hw3) _ _ _ _ ⟨0, rfl⟩ h3
    cases r with
    | ok nx w2 =>
      cases nx <;> simp only [Oper.upon] at h2 ⊢
      case value v => exact step _ _ h2
      case skip => exact step _ _ h2
      case defer d => exact step _ _ h2
      case enter f args =>
        refine h2.mono fun e w3 h3 => ?_
        cases e with
        | returned v => exact step _ _ h3
        | panicked c => exact h3
        | outgrown => exact h3
      case row r args => exact h2.mono fun v w3 h3 => step _ _ h3
      all_goals first | exact h2.elim | exact h2
    | halt hh w2 =>
      cases hh <;> simp only [Oper.upon] at h2 ⊢
      all_goals first | exact h2 | exact h2.elim) _ _ _ _ hC H
  rw [htl, show n + (l.toArray.size - n - 1 + 1) = l.toArray.size by simp only [List.size_toArray]; omega] at key
  exact key

theorem wp_mid_g {id : Nat} {Q : Exit → Act → World → Prop} {a : Act} {w : World} {l : List Oper} (n : Nat) (om : Oper) (hom : l[n]? = some om) (hm : P.follows .mixedOrders = true) (hB : midB .any l.toArray n = true)
    (h : wpQuiet P l.toArray (fun w' => ∃ n, w' = w.drewN n) (fun a' => Region.wanted om (yielded l.toArray a'.tmps) = true ∧ ∀ w', (∃ n, w' = w.drewN n) → ∀ K : Act → World → Prop, (∀ a2 w2, wpQuiet P l.toArray (fun x => ∃ n, x = w2.drewN n) (fun a3 => ∀ w3, (∃ n, w3 = w2.drewN n) → Q .normal a3 w3) (l.drop (n + 1)) a2 → K a2 w2) → om.wp P a' w' K Q) (l.take n) a) : (Code.region id l.toArray true).wp P Q a w :=
  wp_region_midg (C := fun w' => ∃ n, w' = w.drewN n) n om hom hm hB ⟨1, rfl⟩ (wpQuiet_mono (fun _ h => ⟨h.1, fun w' hw' => h.2 w' hw' _ fun _ _ h => h⟩) _ _ h)
end
end Go.Proofs.YtfjnkidblalckaaGreatDoor

/- Contract: kinsame.Ints: whether two lists of ints are the same. No condition. -/
namespace Go.Proofs.YtfjnkidblalckaaGreatDoor
open Go Go.RowKit


set_option maxHeartbeats 1000000 in
theorem ints_any_q (a b : List Int) (va vb : Value) (w : World) (ha : Sl intL w va a) (hb : Sl intL w vb b) : Calls Tryz.prog 14 #[va, vb] w fun e w' => e = .returned (.bool (decide (a = b))) ∧ ∃ m, w' = w.drewN m := by
  obtain ⟨A, c, rfl, _, hcm⟩ := ha.form
  obtain ⟨B, d, rfl, _, hdm⟩ := hb.form
  unfold maxLen at hcm hdm
  by_cases hl : a.length = b.length
  case neg =>
    have HE : Hid (decide (a = b) = false) := decide_eq_false fun e => hl (by rw [e])
    have hl' : decide ((a.length : Int) = (b.length : Int)) = false := decide_eq_false (by omega)
    have hl2 : ((a.length : Int) == (b.length : Int)) = false := by rw [beq_eq_false_iff_ne]; omega
    clear ha hb hl
    go_enter Tryz.func14, Tryz.ntmps14
    go_wp2_with fail
    go_ret
    exact ⟨by rw [HE.out]; rfl, 0, rfl⟩
  have HL := Lib.hid hl
  have hlb : a.length ≤ b.length := by omega
  rw [← hl]
  clear hl
  go_enter Tryz.func14, Tryz.ntmps14
  go_wp2_with fail
  go_loopw [5] (fun i wr => ∃ k : Nat, k ≤ a.length ∧ i = .int .i64 k ∧ Below w.heap.size w wr ∧ Hid (∃ m, wr = w.drewN m) ∧ Hid (∀ j x y, j < k → a[j]? = some x → b[j]? = some y → x = y)) (fun i _ => a.length - (intOf i).toNat)
  case atStart => exact ⟨0, Nat.zero_le _, rfl, Below.refl _ _, ⟨0, rfl⟩, fun j x y hj => absurd hj (Nat.not_lt_zero _)⟩
  case round =>
    obtain ⟨k, hk, rfl, hbr, HM, HA⟩ := hrel
    by_cases hlt : k < a.length
    · obtain ⟨x, hx⟩ : ∃ d, a[k]? = some d := ⟨_, List.getElem?_eq_getElem hlt⟩
      obtain ⟨y, hy⟩ : ∃ d, b[k]? = some d := ⟨_, List.getElem?_eq_getElem (by omega)⟩
      have hlt' : (k : Int) < (a.length : Int) := by omega
      obtain ⟨b1, o1, rfl, _, x0⟩ := int_at (ha.below hbr) hx
      obtain ⟨b2, o2, rfl, _, y0⟩ := int_at (hb.below hbr) hy
      have HX := Lib.hid hx
      have HY := Lib.hid hy
      clear hx hy
      by_cases hq : x = y
      · have HS : Hid (∀ j x y, j < k + 1 → a[j]? = some x → b[j]? = some y → x = y) := fun j p q hj hp hq2 => by
          by_cases hjk : j = k
          · subst hjk
            have e1 := HX.out.symm.trans hp
            have e2 := HY.out.symm.trans hq2
            injection e1 with e1; injection e2 with e2
            rw [← e1, ← e2]; exact hq
          · exact HA.out j p q (by omega) hp hq2
        subst hq
        clear ha hb
        go_wp2_with fail
        go_quiet (fail)
        go_wp2_with fail
        go_roundw
        case rel => exact ⟨k + 1, by omega, by go_num, below_drewN hbr _, drewN_step HM.out nq, HS⟩
        case measure => simp [intOf]; omega
      · have HE : Hid (decide (a = b) = false) := decide_eq_false fun e => by
          have e1 := HX.out
          rw [e, HY.out] at e1
          injection e1 with e1
          exact hq e1.symm
        have hqb : (x != y) = true := by rw [bne_iff_ne]; exact hq
        have hqc : (x == y) = false := by rw [beq_eq_false_iff_ne]; exact hq
        clear ha hb hq
        go_wp2_with fail
        go_quiet (fail)
        go_wp2_with fail
        go_ret
        exact ⟨by rw [HE.out]; rfl, drewN_step HM.out nq⟩
    · obtain rfl : k = a.length := by omega
      have HE : Hid (decide (a = b) = true) := decide_eq_true (lists_eq HL.out HA.out)
      clear ha hb
      go_wp2_with fail
      go_ret
      exact ⟨by rw [HE.out]; rfl, HM.out⟩
theorem ints_any (a b : List Int) (va vb : Value) (w : World) (ha : Sl intL w va a) (hb : Sl intL w vb b) : Calls Tryz.prog 14 #[va, vb] w fun e w' => e = .returned (.bool (decide (a = b))) ∧ Below w.heap.size w w' :=
  (ints_any_q a b va vb w ha hb).mono fun _ _ ⟨h, m, hm⟩ => ⟨h, by rw [hm]; exact below_drewN (Below.refl _ _) m⟩
end Go.Proofs.YtfjnkidblalckaaGreatDoor

/- Contract: kinsame.Lists: whether two rows of lists of ints are the same. No condition. -/
namespace Go.Proofs.YtfjnkidblalckaaGreatDoor
open Go Go.RowKit


set_option maxHeartbeats 1000000 in
theorem lists_any (a b : List (List Int)) (va vb : Value) (w : World) (ha : Sl (slL intL) w va a) (hb : Sl (slL intL) w vb b) : Calls Tryz.prog 15 #[va, vb] w fun e w' => e = .returned (.bool (decide (a = b))) ∧ Below w.heap.size w w' := by
  obtain ⟨A, c, rfl, _, hcm⟩ := ha.form
  obtain ⟨B, d, rfl, _, hdm⟩ := hb.form
  unfold maxLen at hcm hdm
  by_cases hl : a.length = b.length
  case neg =>
    have HE : Hid (decide (a = b) = false) := decide_eq_false fun e => hl (by rw [e])
    have hl' : decide ((a.length : Int) = (b.length : Int)) = false := decide_eq_false (by omega)
    have hl2 : ((a.length : Int) == (b.length : Int)) = false := by rw [beq_eq_false_iff_ne]; omega
    clear ha hb hl
    go_enter Tryz.func15, Tryz.ntmps15
    go_wp2_with fail
    go_ret
    exact ⟨by rw [HE.out]; rfl, Below.refl _ _⟩
  have HL := Lib.hid hl
  have hlb : a.length ≤ b.length := by omega
  rw [← hl]
  clear hl
  go_enter Tryz.func15, Tryz.ntmps15
  go_wp2_with fail
  go_loopw [5] (fun i wr => ∃ k : Nat, k ≤ a.length ∧ i = .int .i64 k ∧ Below w.heap.size w wr ∧ Hid (∀ j x y, j < k → a[j]? = some x → b[j]? = some y → x = y)) (fun i _ => a.length - (intOf i).toNat)
  case atStart => exact ⟨0, Nat.zero_le _, rfl, Below.refl _ _, fun j x y hj => absurd hj (Nat.not_lt_zero _)⟩
  case round =>
    obtain ⟨k, hk, rfl, hbr, HA⟩ := hrel
    by_cases hlt : k < a.length
    · obtain ⟨x, hx⟩ : ∃ d, a[k]? = some d := ⟨_, List.getElem?_eq_getElem hlt⟩
      obtain ⟨y, hy⟩ : ∃ d, b[k]? = some d := ⟨_, List.getElem?_eq_getElem (by omega)⟩
      have hlt' : (k : Int) < (a.length : Int) := by omega
      have hlt2 : (k : Int) < (b.length : Int) := by omega
      obtain ⟨b1, o1, rfl, u, hu, hcell⟩ := sl_at (ha.below hbr) hx
      obtain ⟨Au, cu, rfl, _, _⟩ := hu.form
      obtain ⟨b2, o2, rfl, v, hv, hcell2⟩ := sl_at (hb.below hbr) hy
      obtain ⟨Av, cv, rfl, _, _⟩ := hv.form
      have HX := Lib.hid hx
      have HY := Lib.hid hy
      have HC : Hid (∀ W, Below wr.heap.size wr W → Calls Tryz.prog 14 #[.slice Au x.length cu, .slice Av y.length cv] W fun e w' => e = .returned (.bool (decide (x = y))) ∧ Below W.heap.size W w') := fun W h => ints_any x y _ _ W (hu.below h) (hv.below h)
      have HQ : Hid (decide (x = y) = true → x = y) := fun h => of_decide_eq_true h
      have HQ2 : Hid (decide (x = y) = false → ¬ x = y) := fun h => of_decide_eq_false h
      clear hx hy hu hv
      generalize decide (x = y) = q at *
      go_wp2_with fail
      refine wp_mid_k 8 _ rfl rfl (by kernel_rfl) (by kernel_rfl) ?_
      simp only [List.take_succ_cons, List.take_zero, List.drop_succ_cons, List.drop_zero]
      repeat (go_big_quiet_step (fail))
      refine wpQuiet_nil ?_
      intro _ hw'
      obtain ⟨nq, hw''⟩ := hw'
      subst hw''
      intro K hK
      have hx := HC.out (wr.drewN nq) (below_drewN (Below.refl _ _) _)
      go_wp2_with fail
      refine hx.mono ?_
      clear hx HC
      rintro e w3 ⟨rfl, hb3⟩
      refine hK _ _ ?_
      repeat (go_big_quiet_step (fail))
      refine wpQuiet_nil ?_
      intro _ hw'
      obtain ⟨nq2, hw''⟩ := hw'
      subst hw''
      clear hK
      have hb13 := below_drewN ((below_drewN (Below.refl wr.heap.size wr) nq).trans hb3) nq2
      generalize w3.drewN nq2 = w4 at *
      have hbr4 := hbr.trans (hb13.mono hbr.size)
      clear hb3 hb13 hcell hcell2 hbr
      cases q with
      | true =>
        have hq := HQ.out rfl
        have HS : Hid (∀ j x y, j < k + 1 → a[j]? = some x → b[j]? = some y → x = y) := fun j p q hj hp hq2 => by
          by_cases hjk : j = k
          · subst hjk
            have e1 := HX.out.symm.trans hp
            have e2 := HY.out.symm.trans hq2
            injection e1 with e1; injection e2 with e2
            rw [← e1, ← e2]; exact hq
          · exact HA.out j p q (by omega) hp hq2
        clear hq HA
        go_wp2_with fail
        go_roundw
        case rel => exact ⟨k + 1, by omega, by go_num, hbr4, HS⟩
        case measure => simp [intOf]; omega
      | false =>
        have HE : Hid (decide (a = b) = false) := decide_eq_false fun e => by
          have e1 := HX.out
          rw [e, HY.out] at e1
          injection e1 with e1
          exact HQ2.out rfl e1.symm
        clear HA
        go_wp2_with fail
        go_ret
        exact ⟨by rw [HE.out]; rfl, hbr4⟩
    · obtain rfl : k = a.length := by omega
      have HE : Hid (decide (a = b) = true) := decide_eq_true (lists_eq HL.out HA.out)
      clear ha hb
      go_wp2_with fail
      go_ret
      exact ⟨by rw [HE.out]; rfl, hbr⟩
end Go.Proofs.YtfjnkidblalckaaGreatDoor

/- Contracts: kind.ready, kind.Kin, kind.IsKin, kind.Is, kind.Fields. -/
namespace Go.Proofs.YtfjnkidblalckaaGreatDoor
open Go Go.RowKit

/-- A list and an error. -/
def RetL {D : Type} (L : Lay D) (l : List D) (err : Int) (w : World) (e : Ending) (w' : World) : Prop := ∃ v, e = .returned (.tuple #[v, errV err]) ∧ Sl L w' v l ∧ Below w.heap.size w w'

def strV (_ : World) (d : ByteArray) (u : Value) : Prop := u = .string d ∧ Sm d
def readyE (l : List Knd) (names : List ByteArray) : Int := if (checkE l).2 = 0 then (if names.any (fun s => decide (kFind l s < 0)) then 5 else 0) else (checkE l).2
theorem readyE_zero {l : List Knd} {names : List ByteArray} (h : readyE l names = 0) : Right l ∧ ∀ s ∈ names, 0 ≤ kFind l s := by
  unfold readyE at h
  split at h
  · rename_i h0
    split at h
    · omega
    · rename_i h1
      refine ⟨checkE_zero h0, fun s hs => ?_⟩
      rcases Int.lt_or_le (kFind l s) 0 with h2 | h2
      · exact absurd (List.any_eq_true.2 ⟨s, hs, decide_eq_true h2⟩) h1
      · exact h2
  · rename_i h0; exact absurd h h0
def isKinB (l : List Knd) (a b : ByteArray) : Bool := (kinL l a).any fun y => decide (b = y)
def kinR (l : List Knd) (name : ByteArray) : List ByteArray := if readyE l [name] = 0 then kinL l name else []
def fieldsR (l : List Knd) (name : ByteArray) : List Fld := if readyE l [name] = 0 then (fieldsOf l name).getD [] else []
def isR (l : List Knd) (a b : ByteArray) : Bool := if readyE l [a, b] = 0 then isKinB l a b else false
end Go.Proofs.YtfjnkidblalckaaGreatDoor

/- Contract: kind.Under: all that come of a kind. -/
namespace Go.Proofs.YtfjnkidblalckaaGreatDoor
open Go Go.RowKit

def underL (l : List Knd) (name : ByteArray) : List ByteArray := (l.filter fun k => isKinB l k.name name).map (·.name)
def underR (l : List Knd) (name : ByteArray) : List ByteArray := if readyE l [name] = 0 then underL l name else []
theorem under_step {l : List Knd} {name : ByteArray} {k : Nat} {d : Knd} (hd : l[k]? = some d) {r u : List ByteArray} (h : u = r ++ ((l.drop k).filter fun k => isKinB l k.name name).map (·.name)) :
    u = (r ++ if isKinB l d.name name then [d.name] else []) ++ ((l.drop (k + 1)).filter fun k => isKinB l k.name name).map (·.name) := by
  rw [h, drop_cons hd, List.filter_cons]
  cases isKinB l d.name name <;> simp
end Go.Proofs.YtfjnkidblalckaaGreatDoor
