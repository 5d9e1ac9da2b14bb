/- Parts: FarW, StatA, GrC. -/
import Derived.Test.YtfjnkidblalckaaGreatDoorMg11
import Derived.Test.YtfjnkidblalckaaGreatDoorMg01
import Derived.Test.YtfjnkidblalckaaGreatDoorMg04
import Derived.Test.YtfjnkidblalckaaGreatDoorMg07
/- Contract: what stat.far of the program answers. -/
namespace Go.Proofs.YtfjnkidblalckaaGreatDoor
open Go.RowKit

theorem int_info : (Tryz.prog.info? 3).map (fun i => (i.zero, i.size, i.bytes)) = some (some (.int .i64 0), 1, 8) := by kernel_rfl

/-- A pair of ints as an array. -/
def pairL : Lay (Int × Int) := flatL 2 (fun _ => True) (fun e => [.int .i64 e.1, .int .i64 e.2]) (fun _ => rfl)

def nI (r : Nat) : Value := .int .i64 (r : Int)

theorem fill_step {n k : Nat} (h : k < n) : ((List.replicate k (-1 : Int) ++ List.replicate (n - k) 0).map (Value.int .i64)).set k (.int .i64 (-1)) = (List.replicate (k + 1) (-1 : Int) ++ List.replicate (n - (k + 1)) 0).map (Value.int .i64) := by
  obtain ⟨m, hm⟩ : ∃ m, n - k = m + 1 := ⟨n - k - 1, by omega⟩
  have hm' : n - (k + 1) = m := by omega
  rw [hm, hm', List.replicate_succ, List.map_append, List.set_append_right _ _ (by simp)]
  simp [List.replicate_succ']
theorem fill_at {n k : Nat} (h : k < n) : ((List.replicate k (-1 : Int) ++ List.replicate (n - k) 0).map (Value.int .i64))[k]? = some (.int .i64 0) := by
  have h1 : 0 < n - k := by omega
  rw [List.getElem?_map, List.getElem?_append_right (by simp)]
  simp [h1]
theorem made_ints (n : Nat) : (madeCells #[.int .i64 0] n).toList = (List.replicate 0 (-1 : Int) ++ List.replicate (n - 0) 0).map (Value.int .i64) := by
  rw [toList_madeCells_one]; simp
theorem own_at0 {w : World} {B b : Nat} {e : TypeId} {n c : Nat} {xs : List Value} (h : Own w B e 1 (.slice (some ⟨b, 0, none⟩) n c) n xs) {j : Nat} {u : Value} (hj : xs[j]? = some u) : w.cell? ⟨b, j, none⟩ = some u := by
  have := h.cell rfl hj
  rwa [Nat.zero_add] at this
theorem own_set0 {w : World} {B b : Nat} {e : TypeId} {n c : Nat} {xs : List Value} (h : Own w B e 1 (.slice (some ⟨b, 0, none⟩) n c) n xs) {j : Nat} (hj : j < n) (u : Value) : Own (w.setCell ⟨b, j, none⟩ u) B e 1 (.slice (some ⟨b, 0, none⟩) n c) n (xs.set j u) := by
  have := h.store j (by omega) u
  rwa [Nat.zero_add] at this

/-- What stands at the head of each loop: old memory, the distances, the row. -/
structure FarW (B : Nat) (W1 wr : World) (n : Nat) (rv : Value) (st : List Int × List Nat) : Prop where
  bel : Below B W1 wr
  out : Own wr B 3 1 (.slice (some ⟨B, 0, none⟩) n n) n (st.1.map (Value.int .i64))
  row : Own wr B 3 1 rv st.2.length (st.2.map nI)
  ne : rv.ownBlock ≠ some B

theorem FarW.drewN {B : Nat} {W1 wr : World} {n : Nat} {rv : Value} {st : List Int × List Nat} (h : FarW B W1 wr n rv st) (k : Nat) : FarW B W1 (wr.drewN k) n rv st :=
  ⟨below_drewN h.bel k, h.out, h.row, h.ne⟩
theorem FarW.alloc {B : Nat} {W1 wr : World} {n : Nat} {rv : Value} {st : List Int × List Nat} (h : FarW B W1 wr n rv st) (o : Obj) : FarW B W1 (wr.alloc o) n rv st :=
  ⟨h.bel.alloc (Nat.le_of_lt (h.out.lt _ rfl).2) o, h.out.alloc o, h.row.alloc o, h.ne⟩
theorem FarW.below {B : Nat} {W1 wr wx : World} {n : Nat} {rv : Value} {st : List Int × List Nat} (h : FarW B W1 wr n rv st) (hb : Below wr.heap.size wr wx) : FarW B W1 wx n rv st :=
  ⟨h.bel.trans (hb.mono (Nat.le_of_lt (h.out.lt _ rfl).2)), h.out.below hb, h.row.below hb, h.ne⟩
/-- A cell of the ends' block. -/
theorem ends_cell {wx : World} {bE : Nat} {tt : Tie} {ty : TypeId} (h : wx.heap[bE]? = some (.cells #[.int .i64 tt.src, .int .i64 tt.dst, .int .i64 tt.dst, .int .i64 tt.src] ty (0, 0))) {k : Nat} {e : Int × Int} (he : (tieEnds tt)[k]? = some e) :
    wx.cell? ⟨bE, k * 2, none⟩ = some (.int .i64 e.1) ∧ wx.cell? ⟨bE, k * 2 + 1, none⟩ = some (.int .i64 e.2) := by
  rw [cell_of_row wx bE _ _ ty (0, 0) h, cell_of_row wx bE _ _ ty (0, 0) h]
  match k, he with
  | 0, he => simp [tieEnds] at he; subst he; exact ⟨rfl, rfl⟩
  | 1, he => simp [tieEnds] at he; subst he; exact ⟨rfl, rfl⟩

set_option maxRecDepth 100000 in
set_option maxHeartbeats 8000000 in
theorem far_any (g : Grf) (vn vt : Value) (w : World) (hg : GrfR w vn vt g) (src : Nat) (hsrc : src < g.nodes.length) (hc : chain nodLt g.nodes = true) (hl : g.nodes.length ≤ 60) (hlt : g.ties.length ≤ 120) :
    Calls Tryz.prog 27 #[.agg #[vn, vt], .int .i64 src] w fun e w' => ∃ v, e = .returned v ∧ Own w' w.heap.size 3 1 v (farI g src).length ((farI g src).map (Value.int .i64)) ∧ Below w.heap.size w w' := by
  obtain ⟨i0, hi, hz, hz1, hz2⟩ := info_parts int_info
  have hg' := hg
  obtain ⟨hn, ht⟩ := hg
  obtain ⟨A, c, rfl, hlc, hcm⟩ := hn.form
  obtain ⟨A', c', rfl, hlc', hcm'⟩ := ht.form
  clear hlc hcm hlc' hcm'
  have hmk : ∀ u : World, (Instr.makeSlice 31 (.int .i64 (g.nodes.length : Int)) (.int .i64 (g.nodes.length : Int))).run Tryz.prog u =
      .ok (.slice (some ⟨u.heap.size, 0, none⟩) g.nodes.length g.nodes.length) (u.alloc (.cells (madeCells #[.int .i64 0] g.nodes.length) 3)) := fun u => by
    have h := run_make (P := Tryz.prog) u 31 3 i0 (.int .i64 0) Tryz.underlying31 hi hz .i64 .i64 (g.nodes.length : Int) (g.nodes.length : Int) (by omega) (Int.le_refl _) (by rw [hz2]; omega) (by omega)
    simpa [hz1, Value.cells] using h
  obtain ⟨q0, q1⟩ := cell_box2 w (.slice A g.nodes.length c) (.slice A' g.ties.length c') 29
  have hb0 : Below w.heap.size w (w.alloc (.cells #[.slice A g.nodes.length c, .slice A' g.ties.length c'] 29)) := (Below.refl _ _).alloc (Nat.le_refl _) _
  have hW1 : (w.alloc (.cells #[.slice A g.nodes.length c, .slice A' g.ties.length c'] 29)).heap.size = w.heap.size + 1 := by simp
  have hlen0 : (0 : Int) < (g.nodes.length : Int) := by omega
  go_enter Tryz.func27, Tryz.ntmps27
  go_wp2_with fail
  clear hmk
  generalize hW : w.alloc (.cells #[.slice A g.nodes.length c, .slice A' g.ties.length c'] 29) = W1 at q0 q1 hb0 hW1
  clear hW
  have HW1 := Lib.hid hW1
  have hown0 : Own (W1.alloc (.cells (madeCells #[.int .i64 0] g.nodes.length) 3)) (w.heap.size + 1) 3 1 (.slice (some ⟨w.heap.size + 1, 0, none⟩) g.nodes.length g.nodes.length) g.nodes.length ((List.replicate 0 (-1 : Int) ++ List.replicate (g.nodes.length - 0) 0).map (Value.int .i64)) := by
    refine ⟨by simp, .inr ⟨w.heap.size + 1, 0, _, _, rfl, Nat.le_refl _, heap_at_new _ _ _ hW1.symm, Nat.le_refl _, by unfold maxLen; omega, ?_, ?_⟩⟩
    · have : (madeCells #[Value.int .i64 0] g.nodes.length).size = g.nodes.length := by rw [← Array.length_toList, toList_madeCells_one]; simp
      omega
    · rw [made_ints]; simp
  clear hW1
  go_loopw [21] (fun i wr => ∃ k : Nat, k ≤ g.nodes.length ∧ i = .int .i64 k ∧ Below (w.heap.size + 1) W1 wr ∧
    Own wr (w.heap.size + 1) 3 1 (.slice (some ⟨w.heap.size + 1, 0, none⟩) g.nodes.length g.nodes.length) g.nodes.length ((List.replicate k (-1 : Int) ++ List.replicate (g.nodes.length - k) 0).map (Value.int .i64))) (fun i _ => g.nodes.length - (intOf i).toNat)
  case atStart => exact ⟨0, Nat.zero_le _, rfl, (Below.refl _ _).alloc (by rw [HW1.out]; exact Nat.le_refl _) _, hown0⟩
  case round =>
    obtain ⟨k, hk, rfl, hb, hown⟩ := hrel
    clear hown0
    by_cases hk2 : k < g.nodes.length
    · have hcell : wr.cell? ⟨w.heap.size + 1, k, none⟩ = some (.int .i64 0) := own_at0 hown (fill_at hk2)
      have hfro : wr.frozen? ⟨w.heap.size + 1, k, none⟩ = false := hown.frozen rfl k
      have hown1 := own_set0 hown hk2 (.int .i64 (-1))
      rw [fill_step hk2] at hown1
      have hb1 : Below (w.heap.size + 1) W1 (wr.setCell ⟨w.heap.size + 1, k, none⟩ (.int .i64 (-1))) := hb.setCell (Nat.le_refl _) _
      clear hown
      go_wp2_with fail
      go_roundw
      case rel => exact ⟨k + 1, by omega, by go_num, hb1, hown1⟩
      case measure => simp [intOf]; omega
    · obtain rfl : k = g.nodes.length := by omega
      have hownN : Own wr (w.heap.size + 1) 3 1 (.slice (some ⟨w.heap.size + 1, 0, none⟩) g.nodes.length g.nodes.length) g.nodes.length ((List.replicate g.nodes.length (-1 : Int)).map (Value.int .i64)) := by simpa using hown
      have hcell : wr.cell? ⟨w.heap.size + 1, src, none⟩ = some (.int .i64 (-1)) := own_at0 hownN (by simp [hsrc])
      have hfro : wr.frozen? ⟨w.heap.size + 1, src, none⟩ = false := hown.frozen rfl src
      have hown1 := own_set0 hownN hsrc (.int .i64 0)
      have hB : w.heap.size + 1 < wr.heap.size := (hownN.lt _ rfl).2
      have hb1 : Below (w.heap.size + 1) W1 (wr.setCell ⟨w.heap.size + 1, src, none⟩ (.int .i64 0)) := hb.setCell (Nat.le_refl _) _
      have hfar0 : FarW (w.heap.size + 1) W1 ((wr.setCell ⟨w.heap.size + 1, src, none⟩ (.int .i64 0)).alloc (.cells #[.int .i64 (src : Int)] 3)) g.nodes.length (.slice (some ⟨wr.heap.size, 0, none⟩) 1 1) ((List.replicate g.nodes.length (-1)).set src 0, [src]) := by
        refine ⟨hb1.alloc (by simp [World.size_setCell]; omega) _, ?_, ?_, ?_⟩
        · rw [List.map_set]; exact hown1.alloc _
        · exact ⟨rfl, .inr ⟨wr.heap.size, 0, 1, _, rfl, by omega, heap_at_new _ _ _ (by simp), Nat.le_refl _, by unfold maxLen; omega, by simp, by simp [nI]⟩⟩
        · simp [Value.ownBlock]; omega
      clear hown hownN hown1 hb1 hk hk2
      have hsrc' : (src : Int) < (g.nodes.length : Int) := by omega
      obtain ⟨wo, rfl⟩ : ∃ wo : World, wo = wr := ⟨_, rfl⟩
      go_wp2_with fail
      go_loopg [7] g.nodes.length (fun gk rv wr => ∃ st : List Int × List Nat, FarW (w.heap.size + 1) W1 wr g.nodes.length rv st ∧ Hid (OInv g.nodes.length gk st) ∧ Hid (farI g src = farRun g gk st))
      case atStart => exact ⟨_, hfar0, OInv.start hsrc, rfl⟩
      case round =>
        obtain ⟨st, hF, HO, HR⟩ := hrel
        clear hfar0 hcell hfro
        obtain ⟨ls, row⟩ := st
        obtain ⟨Ar, cr, rfl, hrc, hrm⟩ := hF.row.form
        have r0 : wr.cell? ⟨w.heap.size, 0, none⟩ = some (.slice A g.nodes.length c) := (hF.bel.cell (by show w.heap.size < _; omega)).trans q0
        have r1 : wr.cell? ⟨w.heap.size, 1, none⟩ = some (.slice A' g.ties.length c') := (hF.bel.cell (by show w.heap.size < _; omega)).trans q1
        have hbw : Below w.heap.size w wr := hb0.trans (hF.bel.mono (by omega))
        match row, hF, HO, HR, hrc with
        | [], hF, HO, HR, hrc =>
          have HE : Hid (farI g src = ls) := by
            rw [HR.out]; cases gk <;> rfl
          have hz0 : ¬ ((0 : Int) < 0) := by omega
          have hlenls : ls.length = g.nodes.length := HO.out.len
          have hfin : Own wr w.heap.size 3 1 (.slice (some ⟨w.heap.size + 1, 0, none⟩) g.nodes.length g.nodes.length) (farI g src).length ((farI g src).map (Value.int .i64)) := by
            rw [HE.out, hlenls]; exact hF.out.mono (by omega)
          have HX := Lib.hid (And.intro hfin hbw)
          clear hfin hbw hF HO HR hn ht hg' hlenls
          go_wp2_with fail
          go_ret
          exact ⟨_, rfl, HX.out.1, HX.out.2⟩
        | r :: rest, hF, HO, HR, hrc =>
          have HFI : Hid (FInv g.nodes.length gk r (ls.getD r 0) (ls, r :: rest)) := HO.out.enter rfl
          have hgk : 0 < gk := by have := HO.out.meas; simp at this; omega
          have HR2 : Hid (farI g src = farRun g (gk - 1) ((farTies g.nodes (idAt g.nodes r) (ls.getD r 0) g.ties (ls, r :: rest)).1, (farTies g.nodes (idAt g.nodes r) (ls.getD r 0) g.ties (ls, r :: rest)).2.tail)) := by
            obtain ⟨m, rfl⟩ : ∃ m, gk = m + 1 := ⟨gk - 1, by omega⟩
            exact HR.out
          have hr : r < g.nodes.length := (HO.out.mem r (by simp)).1
          obtain ⟨nd, hnd⟩ : ∃ d, g.nodes[r]? = some d := ⟨_, List.getElem?_eq_getElem hr⟩
          have hid : idAt g.nodes r = nd.id := by unfold idAt; rw [hnd]
          rw [hid] at HR2
          clear hid HO HR
          obtain ⟨bn, on, rfl, hall⟩ := nod_all (hn.below hbw) (by omega)
          obtain ⟨un, hidn, hkdn, hprn, x0, x1, x2⟩ := hall _ _ hnd
          clear hall hnd hkdn hprn x1 x2
          obtain ⟨gr, orr, cr', hv, hgB, hgs⟩ := hF.row.addr (by simp)
          injection hv with hA _ hc'
          subst hA
          clear hc'
          have y0 : wr.cell? ⟨gr, orr, none⟩ = some (.int .i64 (r : Int)) := by
            have := hF.row.cell rfl (j := 0) (u := nI r) rfl
            simpa [nI] using this
          have hr' : (r : Int) < (g.nodes.length : Int) := by omega
          have hrl : (0 : Int) < ((rest.length : Int) + 1) := by omega
          generalize hd : ls.getD r 0 = d at HFI HR2
          have HD := Lib.hid hd
          clear hd
          have HF := Lib.hid hF
          clear hF
          go_wp2_with fail
          go_quiet (fail)
          go_wp2_with fail
          clear hidn x0 y0 hr' hrl
          go_loopw [7, 49] (fun rv i w3 => ∃ (k : Nat) (s3 : List Int × List Nat), k ≤ g.ties.length ∧ i = .int .i64 k ∧ FarW (w.heap.size + 1) W1 w3 g.nodes.length rv s3 ∧ Hid (FInv g.nodes.length gk r d s3) ∧
            Hid (farTies g.nodes nd.id d g.ties (ls, r :: rest) = farTies g.nodes nd.id d (g.ties.drop k) s3)) (fun _ i _ => g.ties.length - (intOf i).toNat)
          case atStart => exact ⟨0, (ls, r :: rest), Nat.zero_le _, rfl, HF.out.drewN _, HFI, rfl⟩
          case round =>
            obtain ⟨k, s3, hk3, rfl, hF3, HI3, HT3⟩ := hrel
            have hbw3 : Below w.heap.size w wr := hb0.trans (hF3.bel.mono (by omega))
            have r0 : wr.cell? ⟨w.heap.size, 0, none⟩ = some (.slice (some ⟨bn, on, none⟩) g.nodes.length c) := (hF3.bel.cell (by show w.heap.size < _; omega)).trans q0
            have r1 : wr.cell? ⟨w.heap.size, 1, none⟩ = some (.slice A' g.ties.length c') := (hF3.bel.cell (by show w.heap.size < _; omega)).trans q1
            by_cases hkt : k < g.ties.length
            · obtain ⟨tt, htt⟩ : ∃ d, g.ties[k]? = some d := ⟨_, List.getElem?_eq_getElem hkt⟩
              obtain ⟨bt, ot, rfl, htok, x0, x1, x2⟩ := tie_at (ht.below hbw3) htt
              have HTT : Hid (farTies g.nodes nd.id d g.ties (ls, r :: rest) = farTies g.nodes nd.id d (g.ties.drop (k + 1)) (farTie g.nodes nd.id d s3 tt)) := fold_drop HT3.out htt
              clear HT3 htt htok
              have hB3 : w.heap.size + 1 < wr.heap.size := (hF3.out.lt _ rfl).2
              obtain ⟨w3, rfl⟩ : ∃ w3 : World, w3 = wr := ⟨_, rfl⟩
              go_wp2_with fail
              clear x0 x1 x2
              have hE0 : (((w3.alloc (.cells #[.string tt.bond, .int .i64 tt.src, .int .i64 tt.dst] 41)).alloc (.cells #[.int .i64 tt.src, .int .i64 tt.dst, .int .i64 tt.dst, .int .i64 tt.src] 87)).heap[w3.heap.size + 1]?) = some (.cells #[.int .i64 tt.src, .int .i64 tt.dst, .int .i64 tt.dst, .int .i64 tt.src] 87 (0, 0)) := heap_at_new _ _ _ (by simp)
              have hne0 : u7.ownBlock ≠ some (w3.heap.size + 1) := fun e => by have := (hF3.row.lt _ e).2; omega
              have HE0 := Lib.hid (And.intro hE0 hne0)
              clear hE0 hne0
              go_loopw [7, 65] (fun rv i w4 => ∃ (k4 : Nat) (s4 : List Int × List Nat), k4 ≤ 2 ∧ i = .int .i64 k4 ∧ FarW (w.heap.size + 1) W1 w4 g.nodes.length rv s4 ∧ Hid (FInv g.nodes.length gk r d s4) ∧
                Hid (farTie g.nodes nd.id d s3 tt = ((tieEnds tt).drop k4).foldl (fun st e => farEnd g.nodes nd.id d e st) s4) ∧
                Hid (w4.heap[w3.heap.size + 1]? = some (.cells #[.int .i64 tt.src, .int .i64 tt.dst, .int .i64 tt.dst, .int .i64 tt.src] 87 (0, 0)) ∧ rv.ownBlock ≠ some (w3.heap.size + 1))) (fun _ i _ => 2 - (intOf i).toNat)
              case atStart => exact ⟨0, s3, by omega, rfl, (hF3.alloc _).alloc _, HI3, rfl, HE0.out⟩
              case round =>
                obtain ⟨k4, s4, hk4, rfl, hF4, HI4, HT4, HE4⟩ := hrel
                clear hF3 HI3 HE0 HF HD
                have hbw4 : Below w.heap.size w wr := hb0.trans (hF4.bel.mono (by omega))
                have r0 : wr.cell? ⟨w.heap.size, 0, none⟩ = some (.slice (some ⟨bn, on, none⟩) g.nodes.length c) := (hF4.bel.cell (by show w.heap.size < _; omega)).trans q0
                have r1 : wr.cell? ⟨w.heap.size, 1, none⟩ = some (.slice (some ⟨bt, ot, none⟩) g.ties.length c') := (hF4.bel.cell (by show w.heap.size < _; omega)).trans q1
                obtain ⟨w4, rfl⟩ : ∃ w4 : World, w4 = wr := ⟨_, rfl⟩
                have hB4 : w.heap.size + 1 < w4.heap.size := (hF4.out.lt _ rfl).2
                have hB4' : w.heap.size < w4.heap.size := by omega
                by_cases hk5 : k4 < 2
                · obtain ⟨ee, hee⟩ : ∃ e, (tieEnds tt)[k4]? = some e := ⟨_, List.getElem?_eq_getElem (by simpa [tieEnds] using hk5)⟩
                  obtain ⟨c0, c1⟩ := ends_cell HE4.out.1 hee
                  have HT5 : Hid (farTie g.nodes nd.id d s3 tt = ((tieEnds tt).drop (k4 + 1)).foldl (fun st e => farEnd g.nodes nd.id d e st) (farEnd g.nodes nd.id d ee s4)) := fold_drop HT4.out hee
                  clear HT4 hee
                  have hbE : w3.heap.size + 1 < w4.heap.size := by
                    rcases Nat.lt_or_ge (w3.heap.size + 1) w4.heap.size with h | h
                    · exact h
                    · have := HE4.out.1; rw [Array.getElem?_eq_none h] at this; cases this
                  have hb4x : Below w4.heap.size w4 (w4.alloc (.cells #[.int .i64 ee.1, .int .i64 ee.2] 87)) := (Below.refl _ _).alloc (Nat.le_refl _) _
                  have hk5' : (k4 : Int) < 2 := by omega
                  obtain ⟨Ar, cr, rfl, hrc, hrm⟩ := hF4.row.form
                  generalize hK : fpos g.nodes ee.2 = K at HT5
                  generalize hH : fhas g.nodes ee.2 = H at HT5
                  have hfind := fun (x : World) (hx : Below w.heap.size w x) => find_any g _ _ x (hg'.below hx) ee.2 hc (by omega)
                  have HKl : Hid (H = true → K < g.nodes.length) := fun e => by rw [← hK]; exact fhas_lt (by rw [hH]; exact e)
                  have HN := Lib.hid (fun (h : ¬ (ee.1 = nd.id ∧ H = true ∧ s4.1.getD K 0 < 0)) => farEnd_no (nodes := g.nodes) (id := nd.id) (d := d) (e := ee) (st := s4) (by rw [hK, hH]; exact h))
                  have HY := Lib.hid (fun (h : ee.1 = nd.id ∧ H = true ∧ s4.1.getD K 0 < 0) => (farEnd_yes (nodes := g.nodes) (id := nd.id) (d := d) (e := ee) (st := s4) (by rw [hK, hH]; exact h)).trans (by rw [hK]))
                  rw [hK, hH] at hfind
                  clear hK hH
                  have hbw4x := hbw4.trans (hb4x.mono hbw4.size)
                  have HF := Lib.hid hfind
                  clear hfind
                  go_wp2_with fail
                  refine (HF.out _ hbw4x).mono ?_
                  rintro e5 w5 ⟨rfl, hb5⟩
                  have hF5 := (hF4.alloc (.cells #[.int .i64 ee.1, .int .i64 ee.2] 87)).below hb5
                  have z0 : w5.cell? ⟨w4.heap.size, 0, none⟩ = some (.int .i64 ee.1) := cell_below hb5 (by rw [World.cell?_alloc_at _ _ _ _ rfl]; rfl)
                  have HE5 : Hid (w5.heap[w3.heap.size + 1]? = some (.cells #[.int .i64 tt.src, .int .i64 tt.dst, .int .i64 tt.dst, .int .i64 tt.src] 87 (0, 0)) ∧ (Value.slice Ar s4.2.length cr).ownBlock ≠ some (w3.heap.size + 1)) :=
                    ⟨(hb5.block _ (by simp; omega)).trans ((Below.heap_alloc _ _ _ hbE).trans HE4.out.1), HE4.out.2⟩
                  have hB5 : w4.heap.size < w5.heap.size := by have := hb5.size; simp at this; omega
                  clear hF4 HE4 c0 c1 HF hb5
                  by_cases e1 : ee.1 = nd.id
                  · have e1b : (ee.1 == nd.id) = true := by simpa using e1
                    cases H with
                    | false =>
                      have HT6 : Hid (farTie g.nodes nd.id d s3 tt = ((tieEnds tt).drop (k4 + 1)).foldl (fun st e => farEnd g.nodes nd.id d e st) s4) := by
                        unfold Hid; rw [HT5.out, HN.out (fun h => Bool.noConfusion h.2.1)]
                      clear HT5 HN HY HKl e1
                      go_wp2_with fail
                      go_roundw
                      case rel => exact ⟨k4 + 1, s4, by omega, by go_num, hF5, HI4, HT6, HE5⟩
                      case measure => simp [intOf]; omega
                    | true =>
                      have hKl : K < g.nodes.length := HKl.out rfl
                      have hcK : w5.cell? ⟨w.heap.size + 1, K, none⟩ = some (.int .i64 (s4.1.getD K 0)) := own_at0 hF5.out (map_getD (by rw [HI4.out.len]; exact hKl))
                      have hKl' : (K : Int) < (g.nodes.length : Int) := by omega
                      obtain ⟨x, hx⟩ : ∃ x, s4.1.getD K 0 = x := ⟨_, rfl⟩
                      rw [hx] at hcK
                      have HX := Lib.hid hx
                      clear hx
                      by_cases hneg : x < 0
                      · have hnegb : decide (x < 0) = true := by simpa using hneg
                        have HT6 : Hid (farTie g.nodes nd.id d s3 tt = ((tieEnds tt).drop (k4 + 1)).foldl (fun st e => farEnd g.nodes nd.id d e st) (s4.1.set K (d + 1), s4.2 ++ [K])) := by
                          unfold Hid; rw [HT5.out, HY.out ⟨e1, rfl, by rw [HX.out]; exact hneg⟩]
                        have HI6 : Hid (FInv g.nodes.length gk r d (s4.1.set K (d + 1), s4.2 ++ [K])) := HI4.out.push hKl (by rw [HX.out]; exact hneg)
                        obtain ⟨rest4, hr4⟩ := HI4.out.hd
                        obtain ⟨g4, o4, cr4, hv, hg4B, hg4s⟩ := hF5.row.addr (by rw [hr4]; simp)
                        injection hv with hA _ hc4
                        subst hA
                        clear hc4
                        have y0 : w5.cell? ⟨g4, o4, none⟩ = some (.int .i64 (r : Int)) := by
                          have := hF5.row.cell rfl (j := 0) (u := nI r) (by rw [hr4]; rfl)
                          simpa [nI] using this
                        have y1 : w5.cell? ⟨w.heap.size + 1, r, none⟩ = some (.int .i64 d) := by
                          have := own_at0 hF5.out (map_getD (k := r) (by rw [HI4.out.len]; exact hr))
                          rwa [HI4.out.val] at this
                        have hfro : w5.frozen? ⟨w.heap.size + 1, K, none⟩ = false := hF5.out.frozen rfl K
                        have hd0 : 0 ≤ d := HI4.out.pos
                        have hd1 : d ≤ 60 := by have := HI4.out.low; omega
                        have hs4l : 0 < s4.2.length := by rw [hr4]; simp
                        have hs4l' : (0 : Int) < (s4.2.length : Int) := by omega
                        have hs4u : s4.2.length ≤ 60 := by have := HI4.out.meas; have := HI4.out.low; omega
                        have hr' : (r : Int) < (g.nodes.length : Int) := by omega
                        have hO6 := own_set0 hF5.out hKl (.int .i64 (d + 1))
                        have hR6 := hF5.row.setCell ⟨w.heap.size + 1, K, none⟩ (.int .i64 (d + 1)) hF5.ne
                        have hR6' := hR6.alloc (.cells #[.int .i64 (K : Int)] 3)
                        clear HT5 HN HY HKl e1 hr4 HX
                        go_wp2_with (first
                          | (at_builtin; refine wpList_append_q _ rfl (.tmp 100) (.tmp 102) _ rfl (w.heap.size + 1) 3 i0 (.int .i64 0) 1 8 Tryz.underlying31 hi hz hz1 hz2 rfl (by decide) (.slice (some ⟨g4, o4, none⟩) s4.2.length cr) s4.2.length (s4.2.map nI) rfl hR6' (some ⟨w5.heap.size, 0, none⟩) 1 1 [.int .i64 (K : Int)] rfl rfl (fun _ => ⟨_, rfl, by simpa using cell_one_new (w5.setCell ⟨w.heap.size + 1, K, none⟩ (.int .i64 (d + 1))) (.int .i64 (K : Int)) 3⟩) (by simp [Value.oneCell']) (by unfold maxLen; omega) (by omega) (by simp; omega) ?_; intro v7 w7 hown7 hg7 hat7))
                        have hne4 : g4 ≠ w.heap.size + 1 := fun e => hF5.ne (by simp [Value.ownBlock, e])
                        have hne5 : g4 ≠ w3.heap.size + 1 := fun e => HE5.out.2 (by simp [Value.ownBlock, e])
                        have hsz : ((w5.setCell ⟨w.heap.size + 1, K, none⟩ (.int .i64 (d + 1))).alloc (.cells #[.int .i64 (K : Int)] 3)).heap.size = w5.heap.size + 1 := by simp
                        have hF7 : FarW (w.heap.size + 1) W1 w7 g.nodes.length v7 (s4.1.set K (d + 1), s4.2 ++ [K]) := by
                          refine ⟨((hF5.bel.setCell (p := ⟨w.heap.size + 1, K, none⟩) (Nat.le_refl _) _).alloc (by simp; omega) _).grown hg7 (by omega) (fun k hk => by simp [Value.ownBlock] at hk; omega), ?_, ?_, ?_⟩
                          · rw [List.map_set]
                            exact (hO6.alloc _).grown hg7 (Or.inr (by simp [Value.ownBlock]; omega))
                          · simpa [nI] using hown7
                          · rcases hat7 with h | h <;> rw [h] <;> simp [Value.ownBlock] <;> omega
                        have HE7 : Hid (w7.heap[w3.heap.size + 1]? = some (.cells #[.int .i64 tt.src, .int .i64 tt.dst, .int .i64 tt.dst, .int .i64 tt.src] 87 (0, 0)) ∧ v7.ownBlock ≠ some (w3.heap.size + 1)) := by
                          refine ⟨(hg7.block _ (by omega) (by simp [Value.ownBlock]; omega)).trans ((Below.heap_alloc _ _ _ (by simp; omega)).trans ((Below.heap_setCell _ _ _ _ (by simp; omega)).trans HE5.out.1)), ?_⟩
                          rcases hat7 with h | h <;> rw [h] <;> simp [Value.ownBlock] <;> omega
                        clear hg7 hat7 hown7 hsz
                        go_roundw
                        case rel => exact ⟨k4 + 1, _, by omega, by go_num, hF7, HI6, HT6, HE7⟩
                        case measure => simp [intOf]; omega
                      · have hnegb : decide (x < 0) = false := by simpa using hneg
                        have hneg' : 0 ≤ x := by omega
                        have HT6 : Hid (farTie g.nodes nd.id d s3 tt = ((tieEnds tt).drop (k4 + 1)).foldl (fun st e => farEnd g.nodes nd.id d e st) s4) := by
                          unfold Hid; rw [HT5.out, HN.out (fun h => hneg (by rw [← HX.out]; exact h.2.2))]
                        clear HT5 HN HY HKl e1
                        go_wp2_with fail
                        go_roundw
                        case rel => exact ⟨k4 + 1, s4, by omega, by go_num, hF5, HI4, HT6, HE5⟩
                        case measure => simp [intOf]; omega
                  · have e1b : (ee.1 == nd.id) = false := by simpa using e1
                    have HT6 : Hid (farTie g.nodes nd.id d s3 tt = ((tieEnds tt).drop (k4 + 1)).foldl (fun st e => farEnd g.nodes nd.id d e st) s4) := by
                      unfold Hid; rw [HT5.out, HN.out (fun h => e1 h.1)]
                    clear HT5 HN HY HKl e1
                    go_wp2_with fail
                    go_roundw
                    case rel => exact ⟨k4 + 1, s4, by omega, by go_num, hF5, HI4, HT6, HE5⟩
                    case measure => simp [intOf]; omega
                · obtain rfl : k4 = 2 := by omega
                  have hk5' : ¬ ((2 : Int) < 2) := by omega
                  have HT6 : Hid (farTies g.nodes nd.id d g.ties (ls, r :: rest) = farTies g.nodes nd.id d (g.ties.drop (k + 1)) s4) := by
                    unfold Hid; rw [HTT.out, HT4.out]; rfl
                  clear HT4 HTT HE4
                  go_wp2_with fail
                  go_roundw
                  case rel => exact ⟨k + 1, s4, by omega, by go_num, hF4, HI4, HT6⟩
                  case measure => simp [intOf]; omega
            · obtain rfl : k = g.ties.length := by omega
              have HT4 : Hid (farTies g.nodes nd.id d g.ties (ls, r :: rest) = s3) := by
                unfold Hid; rw [HT3.out, List.drop_length]; rfl
              have HR3 : Hid (farI g src = farRun g (gk - 1) (s3.1, s3.2.tail)) := by
                unfold Hid; rw [HR2.out, HT4.out]
              have HO3 : Hid (OInv g.nodes.length (gk - 1) (s3.1, s3.2.tail)) := HI3.out.leave
              obtain ⟨rest3, hr3⟩ := HI3.out.hd
              obtain ⟨g3, o3, cr3, hv, hg3B, hg3s⟩ := hF3.row.addr (by rw [hr3]; simp)
              subst hv
              have hlen3 : s3.2.length = rest3.length + 1 := by rw [hr3]; rfl
              obtain ⟨A3, c3, hvx, hcx, hcm⟩ := hF3.row.form
              injection hvx with hA3 _ hcx'
              subst hcx'
              clear hA3 A3 hcm
              have HL := Lib.hid hlen3
              have hl3 : 1 ≤ s3.2.length := by omega
              have hl3' : (1 : Int) ≤ (s3.2.length : Int) := by omega
              have hcx2 : (s3.2.length : Int) ≤ (cr3 : Int) := by omega
              have hgk1 : gk - 1 < gk := by omega
              clear HT3 HT4 HI3 HR2 hr3 hlen3 HF HD
              by_cases hc1 : cr3 = 1
              · subst hc1
                have hF8 : FarW (w.heap.size + 1) W1 wr g.nodes.length (.slice (some ⟨g3, o3, none⟩) 0 0) (s3.1, s3.2.tail) := by
                  have e1 : s3.2.length = 1 := by omega
                  have e2 : s3.2.tail = [] := List.eq_nil_of_length_eq_zero (by rw [List.length_tail]; omega)
                  refine ⟨hF3.bel, hF3.out, ?_, by have := hF3.ne; simpa [Value.ownBlock] using this⟩
                  show Own wr _ _ _ (.slice (some ⟨g3, o3, none⟩) 0 0) s3.2.tail.length (s3.2.tail.map nI)
                  rw [e2]
                  exact hF3.row.cut0 e1
                have HF8 := Lib.hid hF8
                clear hF8 hF3
                go_wp2_with fail
                go_roundg (gk - 1)
                case measure => omega
                case rel => exact ⟨_, HF8.out, HO3, HR3⟩
              · have hc2 : 1 < cr3 := by omega
                have hF8 : FarW (w.heap.size + 1) W1 wr g.nodes.length (.slice (some ⟨g3, o3 + 1, none⟩) (s3.2.length - 1) (cr3 - 1)) (s3.1, s3.2.tail) := by
                  have := hF3.row.cut (k := 1) hl3 hc2
                  refine ⟨hF3.bel, hF3.out, ?_, by have := hF3.ne; simpa [Value.ownBlock] using this⟩
                  simpa [List.length_tail, List.map_tail] using this
                have HF8 := Lib.hid hF8
                have hc3 : ¬ ((cr3 : Int) = 1) := by omega
                clear hF8 hF3
                go_wp2_with fail
                go_roundg (gk - 1)
                case measure => omega
                case rel => exact ⟨_, HF8.out, HO3, HR3⟩
end Go.Proofs.YtfjnkidblalckaaGreatDoor

/- Contracts: slices.Index, slices.Contains over ints, slices.IndexFunc, slices.ContainsFunc over lists of ints, kinref2.In, stat.Far. -/
namespace Go.Proofs.YtfjnkidblalckaaGreatDoor
open Go.RowKit

set_option maxHeartbeats 400000 in
theorem indexInt_any (l : List Int) (x : Int) (v : Value) (w : World) (hv : Sl intL w v l) :
    Calls Tryz.prog 39 #[v, .int .i64 x] w fun e w' => e = .returned (.int .i64 (idxI (fun y => x == y) l)) ∧ w = w' := by
  obtain ⟨A, c, rfl, hlc, hcm⟩ := hv.form
  unfold maxLen at hcm
  go_enter Tryz.func39, Tryz.ntmps39
  go_wp2_with fail
  go_loop [8] (fun i => ∃ k : Nat, k ≤ l.length ∧ i = .int .i64 k ∧ Hid (∀ j y, j < k → l[j]? = some y → (x == y) = false)) (fun i => l.length - (intOf i).toNat)
  case atStart => exact ⟨0, Nat.zero_le _, rfl, fun j x hj => absurd hj (Nat.not_lt_zero _)⟩
  case round =>
    obtain ⟨k, hk, rfl, HA⟩ := hrel
    by_cases hlt : k < l.length
    · obtain ⟨d, hd⟩ : ∃ d, l[k]? = some d := ⟨_, List.getElem?_eq_getElem hlt⟩
      obtain ⟨b, o, rfl, _, hcell⟩ := int_at hv hd
      have HD : Hid (l[k]? = some d) := hd
      clear hd hv
      cases hq : (x == d) with
      | true =>
        have HE : Hid (idxI (fun y => x == y) l = k) := idxI_hit HA.out HD.out hq
        go_wp2_with fail
        go_ret
        exact ⟨by rw [HE.out]; rfl, rfl⟩
      | false =>
        have HS : Hid (∀ j y, j < k + 1 → l[j]? = some y → (x == y) = false) := miss_step HA.out HD.out hq
        go_wp2_with fail
        go_round
        case rel => exact ⟨k + 1, by omega, by go_num, HS⟩
        case measure => simp [intOf]; omega
    · have hkl : k = l.length := by omega
      subst hkl
      have HE : Hid (idxI (fun y => x == y) l = -1) := idxI_miss HA.out
      clear hv
      go_wp2_with fail
      go_ret
      exact ⟨by rw [HE.out]; rfl, rfl⟩
theorem containsInt_any (l : List Int) (x : Int) (v : Value) (w : World) (hv : Sl intL w v l) :
    Calls Tryz.prog 26 #[v, .int .i64 x] w fun e w' => e = .returned (.bool (l.any fun y => x == y)) ∧ w = w' := by
  have h1 := indexInt_any l x v w hv
  have h2 := idxI_any (fun y => x == y) l
  have H2 := Lib.hid h2
  clear h2 hv
  go_enter Tryz.func26, Tryz.ntmps26
  go_wp2_with (go_at_call 39; refine h1.mono ?_; rintro e w' ⟨rfl, rfl⟩)
  go_ret
  exact ⟨ret_bool H2.out, rfl⟩

def intsV (w : World) (d : List Int) (u : Value) : Prop := Sl intL w u d
set_option maxHeartbeats 400000 in
theorem idx_ints (g : Nat) (caps : Array Value) (eg : ∀ args w, (callFunc g args).run Tryz.prog w = .ok (.enter g args) w) (p : List Int → Bool) (l : List (List Int)) (v : Value) (w : World) (hv : Sl (slL intL) w v l)
    (hp : PredB Tryz.prog g caps intsV p w) :
    Calls Tryz.prog 38 #[v, .func (.func g) #[] caps] w fun e w' => e = .returned (.int .i64 (idxI p l)) ∧ Below w.heap.size w w' := by
  obtain ⟨A, c, rfl, hlc, hcm⟩ := hv.form
  unfold maxLen at hcm
  go_enter Tryz.func38, Tryz.ntmps38
  go_wp2_with fail
  go_loopw [8] (fun i wr => ∃ k : Nat, k ≤ l.length ∧ i = .int .i64 k ∧ Below w.heap.size w wr ∧ Hid (∀ j x, j < k → l[j]? = some x → p x = false)) (fun i _ => l.length - (intOf i).toNat)
  case atStart => exact ⟨0, Nat.zero_le _, rfl, Below.refl _ _, fun j x hj => absurd hj (Nat.not_lt_zero _)⟩
  case round =>
    obtain ⟨k, hk, rfl, hb, HA⟩ := hrel
    by_cases hlt : k < l.length
    · obtain ⟨d, hd⟩ : ∃ d, l[k]? = some d := ⟨_, List.getElem?_eq_getElem hlt⟩
      obtain ⟨b, o, rfl, u, hu, hcell⟩ := sl_at (hv.below hb) hd
      obtain ⟨Au, cu, rfl, _, _⟩ := hu.form
      have hcall := hp d _ wr hb hu
      clear hu
      have HD : Hid (l[k]? = some d) := hd
      clear hd hp hv
      cases hq : p d with
      | true =>
        rw [hq] at hcall
        have HQ : Hid (p d = true) := hq
        clear hq
        go_wp2_with (go_at_fn g; refine hcall.mono ?_; rintro e w' ⟨rfl, hb2⟩)
        go_ret
        exact ⟨ret_int (idxI_hit HA.out HD.out HQ.out).symm, hb.trans (hb2.mono hb.size)⟩
      | false =>
        rw [hq] at hcall
        have HQ : Hid (p d = false) := hq
        clear hq
        go_wp2_with (go_at_fn g; refine hcall.mono ?_; rintro e w' ⟨rfl, hb2⟩)
        go_roundw
        case rel => exact ⟨k + 1, by omega, by go_num, hb.trans (hb2.mono hb.size), miss_step HA.out HD.out HQ.out⟩
        case measure => simp [intOf]; omega
    · have hkl : k = l.length := by omega
      subst hkl
      clear hp hv
      go_wp2_with fail
      go_ret
      exact ⟨ret_int (idxI_miss HA.out).symm, hb⟩
theorem has_ints (g : Nat) (caps : Array Value) (eg : ∀ args w, (callFunc g args).run Tryz.prog w = .ok (.enter g args) w) (p : List Int → Bool) (l : List (List Int)) (v : Value) (w : World) (hv : Sl (slL intL) w v l)
    (hp : PredB Tryz.prog g caps intsV p w) :
    Calls Tryz.prog 24 #[v, .func (.func g) #[] caps] w fun e w' => e = .returned (.bool (l.any p)) ∧ Below w.heap.size w w' := by
  have h1 := idx_ints g caps eg p l v w hv hp
  have h2 := idxI_any p l
  have H2 := Lib.hid h2
  clear h2 hv hp eg
  go_enter Tryz.func24, Tryz.ntmps24
  go_wp2_with (go_at_call 38; refine h1.mono ?_; rintro e w' ⟨rfl, hb⟩)
  go_ret
  exact ⟨ret_bool H2.out, hb⟩

end Go.Proofs.YtfjnkidblalckaaGreatDoor

/- Plain: what a right graph gives. -/
namespace Go.Proofs.YtfjnkidblalckaaGreatDoor

/-! ### What a right graph gives -/
theorem nodsE_step {p : Option Nod} {n : Nod} {r : List Nod} (h : nodsE p (n :: r) = 0) : idB n.id = true ∧ nodE n = 0 ∧ nodsE (some n) r = 0 ∧ (∀ a, p = some a → nodLt a n = true) := by
  have h1 : idB n.id = true := by
    cases h1 : idB n.id with
    | true => rfl
    | false => unfold nodsE at h; rw [if_pos h1] at h; cases h
  have key : ∀ b : Bool, (if b = true then (7 : Int) else if nodE n = 0 then nodsE (some n) r else nodE n) = 0 → b = false ∧ nodE n = 0 ∧ nodsE (some n) r = 0 := by
    intro b hb
    cases b with
    | true => cases hb
    | false =>
      simp only [Bool.false_eq_true, if_false] at hb
      by_cases h3 : nodE n = 0
      · rw [if_pos h3] at hb; exact ⟨rfl, h3, hb⟩
      · rw [if_neg h3] at hb; exact absurd hb h3
  have hid : ¬ (idB n.id = false) := by simp [h1]
  cases p with
  | none =>
    unfold nodsE at h
    rw [if_neg hid] at h
    obtain ⟨_, k2, k3⟩ := key false h
    exact ⟨h1, k2, k3, fun a ha => by cases ha⟩
  | some q =>
    unfold nodsE at h
    rw [if_neg hid] at h
    obtain ⟨k1, k2, k3⟩ := key (decide (n.id ≤ q.id)) h
    refine ⟨h1, k2, k3, fun a ha => ?_⟩
    cases ha
    unfold nodLt
    simpa using k1
theorem nodsE_zero : ∀ {l : List Nod} {p : Option Nod}, nodsE p l = 0 → (∀ n ∈ l, idB n.id = true ∧ nodE n = 0) ∧ chain nodLt l = true ∧ (∀ a b, p = some a → l.head? = some b → nodLt a b = true)
  | [], p, _ => ⟨by simp, rfl, by simp⟩
  | n :: r, p, h => by
    obtain ⟨s1, s2, s3, s4⟩ := nodsE_step h
    obtain ⟨i1, i2, i3⟩ := nodsE_zero s3
    refine ⟨?_, ?_, ?_⟩
    · intro m hm
      rcases List.mem_cons.1 hm with rfl | hm
      · exact ⟨s1, s2⟩
      · exact i1 m hm
    · cases r with
      | nil => rfl
      | cons b r => simp only [chain, Bool.and_eq_true]; exact ⟨i3 n b rfl rfl, i2⟩
    · intro a b ha hb
      simp at hb
      subst hb
      exact s4 a ha
theorem grf_ok {g : Grf} (h : grfE g = 0) : g.nodes.length ≤ 60 ∧ g.ties.length ≤ 120 ∧ chain nodLt g.nodes = true ∧ ∀ n ∈ g.nodes, idB n.id = true ∧ nodE n = 0 := by
  unfold grfE at h
  by_cases h1 : 60 < g.nodes.length ∨ 120 < g.ties.length
  · rw [if_pos h1] at h; cases h
  rw [if_neg h1] at h
  by_cases h2 : nodsE none g.nodes = 0
  · obtain ⟨i1, i2, _⟩ := nodsE_zero h2
    exact ⟨by omega, by omega, i2, i1⟩
  · rw [if_neg h2] at h; exact absurd h h2

theorem fhas_some' {l : List Nod} {id : Int} (h : fhas l id = true) : ∃ n, l[fpos l id]? = some n := by
  unfold fhas eqAt at h
  cases hd : l[fpos l id]? with
  | none => rw [hd] at h; simp at h
  | some d => exact ⟨d, rfl⟩
end Go.Proofs.YtfjnkidblalckaaGreatDoor
