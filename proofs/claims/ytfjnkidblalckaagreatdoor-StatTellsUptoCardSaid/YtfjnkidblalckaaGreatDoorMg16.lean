/- Parts: RfF, FarR, FarF. -/
import Derived.Test.YtfjnkidblalckaaGreatDoorMg15
import Derived.Test.YtfjnkidblalckaaGreatDoorMg12
import Derived.Test.YtfjnkidblalckaaGreatDoorMg14
import Derived.Test.YtfjnkidblalckaaGreatDoorMg02
import Derived.Test.YtfjnkidblalckaaGreatDoorMg13
/- Contract of the reference: kinref2.Far: how far it is, round by round, of a graph that is right. -/
namespace Go.Proofs.YtfjnkidblalckaaGreatDoor
open Go Go.RowKit


theorem fillS_at {S : List Int} {n k : Nat} (hS : S.length = n) (h : k < n) : ((S.take k ++ List.replicate (n - k) 0).map (Value.int .i64))[k]? = some (.int .i64 0) := by
  have h1 : 0 < n - k := by omega
  rw [List.getElem?_map, List.getElem?_append_right (by rw [List.length_take]; omega)]
  have e : k - (S.take k).length = 0 := by rw [List.length_take]; omega
  rw [e]
  obtain ⟨m, hm⟩ : ∃ m, n - k = m + 1 := ⟨n - k - 1, by omega⟩
  rw [hm]; rfl
theorem fillS_step {S : List Int} {n k : Nat} (hS : S.length = n) (h : k < n) {v : Int} (hv : S[k]? = some v) : ((S.take k ++ List.replicate (n - k) 0).map (Value.int .i64)).set k (.int .i64 v) = (S.take (k + 1) ++ List.replicate (n - (k + 1)) 0).map (Value.int .i64) := by
  obtain ⟨m, hm⟩ : ∃ m, n - k = m + 1 := ⟨n - k - 1, by omega⟩
  have hm' : n - (k + 1) = m := by omega
  have hl : (S.take k).length = k := by rw [List.length_take]; omega
  have e : k - ((S.take k).map (Value.int .i64)).length = 0 := by rw [List.length_map, hl]; omega
  rw [hm, hm', List.replicate_succ, List.map_append, List.set_append_right _ _ (by rw [List.length_map, hl]; exact Nat.le_refl _), List.take_add_one, hv, e]
  simp
/-- The distances at the start. -/
def farS (n i : Nat) : List Int := (List.replicate n (-1)).set i 0
theorem farS_len (n i : Nat) : (farS n i).length = n := by simp [farS]
theorem farS_at {n i k : Nat} (h : k < n) : (farS n i)[k]? = some (if k = i then 0 else -1) := by
  unfold farS
  rw [List.getElem?_set]
  by_cases hk : i = k
  · subst hk; rw [if_pos rfl]; simp [h]
  · rw [if_neg hk, if_neg (fun e => hk e.symm)]; simp [h]
theorem idx_uniq {l : List Nod} (hch : chain nodLt l = true) {i k : Nat} {a b : Nod} (hi : l[i]? = some a) (hk : l[k]? = some b) (h : b.id = a.id) : k = i := by
  have h1 := (fhas_iff hch (id := a.id) (k := i)).2 ⟨(List.getElem?_eq_some_iff.1 hi).1, by unfold idAt; rw [hi]⟩
  have h2 := (fhas_iff hch (id := a.id) (k := k)).2 ⟨(List.getElem?_eq_some_iff.1 hk).1, by unfold idAt; rw [hk]; exact h⟩
  rw [← h1.2, ← h2.2]
theorem relax_len (d : Int) (x y : Nat) (st : List Int) : (relax d x y st).length = st.length := by
  unfold relax; split
  · simp
  · rfl
theorem rTie_len (nodes : List Nod) (d : Int) (st : List Int) (t : Tie) : (rTie nodes d st t).length = st.length := by
  unfold rTie; split
  · rw [relax_len, relax_len]
  · rfl
theorem rTies_len (nodes : List Nod) (d : Int) : ∀ (ts : List Tie) (st : List Int), (ts.foldl (rTie nodes d) st).length = st.length
  | [], _ => rfl
  | t :: ts, st => by rw [List.foldl_cons, rTies_len nodes d ts, rTie_len]
theorem rRounds_len (g : Grf) : ∀ (k : Nat) (st : List Int), (rRounds g k st).length = st.length
  | 0, _ => rfl
  | k + 1, st => by unfold rRounds; rw [rTies_len, rRounds_len g k st]
theorem rfI_eq {l : List Nod} (hch : chain nodLt l = true) (id : Int) : rfI l id = if fhas l id = true then (fpos l id : Int) else -1 := by
  have hx : ∀ j x, l[j]? = some x → x.id = id → fhas l id = true ∧ fpos l id = j := fun j x hj hi =>
    (fhas_iff hch).2 ⟨(List.getElem?_eq_some_iff.1 hj).1, by unfold idAt; rw [hj]; exact hi⟩
  unfold rfI
  cases h : fhas l id with
  | true =>
    obtain ⟨h1, h2⟩ := (fhas_iff hch (id := id) (k := fpos l id)).1 ⟨h, rfl⟩
    obtain ⟨d, hd⟩ : ∃ d, l[fpos l id]? = some d := ⟨_, List.getElem?_eq_getElem h1⟩
    unfold idAt at h2
    rw [hd] at h2
    rw [if_pos rfl]
    refine idxI_hit (fun j x hj hjx => decide_eq_false fun e => ?_) hd (decide_eq_true h2)
    have := (hx j x hjx e).2
    omega
  | false =>
    rw [if_neg (by simp)]
    refine idxI_miss fun j x _ hjx => decide_eq_false fun e => ?_
    rw [(hx j x hjx e).1] at h
    cases h
theorem relax_yes {d : Int} {x y : Nat} {st : List Int} (h1 : st.getD x 0 = d) (h2 : st.getD y 0 < 0) : relax d x y st = st.set y (d + 1) := if_pos ⟨h1, h2⟩
theorem relax_no {d : Int} {x y : Nat} {st : List Int} (h : ¬ (st.getD x 0 = d ∧ st.getD y 0 < 0)) : relax d x y st = st := if_neg h
theorem rTie_yes {nodes : List Nod} {d : Int} {st : List Int} {t : Tie} (h1 : fhas nodes t.src = true) (h2 : fhas nodes t.dst = true) :
    rTie nodes d st t = relax d (fpos nodes t.dst) (fpos nodes t.src) (relax d (fpos nodes t.src) (fpos nodes t.dst) st) := if_pos ⟨h1, h2⟩
theorem rTie_no {nodes : List Nod} {d : Int} {st : List Int} {t : Tie} (h : ¬ (fhas nodes t.src = true ∧ fhas nodes t.dst = true)) : rTie nodes d st t = st := if_neg h

/-- At the head of the loops: the distances in a block of their own. -/
structure RfW (B : Nat) (W1 wr : World) (n : Nat) (st : List Int) : Prop where
  bel : Below B W1 wr
  out : Own wr B 3 1 (.slice (some ⟨B, 0, none⟩) n n) n (st.map (Value.int .i64))
theorem RfW.below {B : Nat} {W1 wr wx : World} {n : Nat} {st : List Int} (h : RfW B W1 wr n st) (hb : Below wr.heap.size wr wx) : RfW B W1 wx n st :=
  ⟨h.bel.trans (hb.mono (Nat.le_of_lt (h.out.lt _ rfl).2)), h.out.below hb⟩
theorem RfW.at {B : Nat} {W1 wr : World} {n : Nat} {st : List Int} (h : RfW B W1 wr n st) {k : Nat} (hk : k < n) (hl : st.length = n) : wr.cell? ⟨B, k, none⟩ = some (.int .i64 (st.getD k 0)) := own_at0 h.out (map_getD (by omega))
theorem RfW.set {B : Nat} {W1 wr : World} {n : Nat} {st : List Int} (h : RfW B W1 wr n st) {k : Nat} (hk : k < n) (v : Int) : RfW B W1 (wr.setCell ⟨B, k, none⟩ (.int .i64 v)) n (st.set k v) :=
  ⟨h.bel.setCell (Nat.le_refl _) _, by rw [List.map_set]; exact own_set0 h.out hk _⟩
theorem RfW.free {B : Nat} {W1 wr : World} {n : Nat} {st : List Int} (h : RfW B W1 wr n st) (k : Nat) : wr.frozen? ⟨B, k, none⟩ = false := h.out.frozen rfl k

set_option maxRecDepth 100000 in
set_option maxHeartbeats 8000000 in
theorem rfar2_any (g : Grf) (vn vt : Value) (w : World) (hg : GrfR w vn vt g) (h0 : grfE g = 0) (i : Nat) (nd : Nod) (hi : g.nodes[i]? = some nd) :
    Calls Tryz.prog 12 #[.agg #[vn, vt], .int .i64 nd.id] w fun e w' => ∃ v, e = .returned v ∧ Own w' w.heap.size 3 1 v g.nodes.length ((farI g i).map (Value.int .i64)) ∧ Below w.heap.size w w' := by
  obtain ⟨hl, hlt, hch, hok⟩ := grf_ok h0
  obtain ⟨i0, hinf, hz, hz1, hz2⟩ := info_parts int_info
  have hil := (List.getElem?_eq_some_iff.1 hi).1
  have hg' := hg
  obtain ⟨hn, ht⟩ := hg
  obtain ⟨A, c, rfl, hlc, hcm⟩ := hn.form
  obtain ⟨A', c', rfl, hlc', hcm'⟩ := ht.form
  clear hlc hcm hlc' hcm'
  have hmk : ∀ u : World, (Instr.makeSlice 31 (.int .i64 (g.nodes.length : Int)) (.int .i64 (g.nodes.length : Int))).run Tryz.prog u =
      .ok (.slice (some ⟨u.heap.size, 0, none⟩) g.nodes.length g.nodes.length) (u.alloc (.cells (madeCells #[.int .i64 0] g.nodes.length) 3)) := fun u => by
    have h := run_make (P := Tryz.prog) u 31 3 i0 (.int .i64 0) Tryz.underlying31 hinf hz .i64 .i64 (g.nodes.length : Int) (g.nodes.length : Int) (by omega) (Int.le_refl _) (by rw [hz2]; omega) (by omega)
    simpa [hz1, Value.cells] using h
  obtain ⟨q0, q1⟩ := cell_box2 w (.slice A g.nodes.length c) (.slice A' g.ties.length c') 29
  have hb0 : Below w.heap.size w (w.alloc (.cells #[.slice A g.nodes.length c, .slice A' g.ties.length c'] 29)) := (Below.refl _ _).alloc (Nat.le_refl _) _
  have hW1 : (w.alloc (.cells #[.slice A g.nodes.length c, .slice A' g.ties.length c'] 29)).heap.size = w.heap.size + 1 := by simp
  have hlen0 : (0 : Int) < (g.nodes.length : Int) := by omega
  have HI := Lib.hid hi
  have HCH := Lib.hid hch
  have HFE : Hid (rRounds g g.nodes.length (farS g.nodes.length i) = farI g i) := rfar_eq hch hil
  have HFL : Hid ((farI g i).length = g.nodes.length) := farI_len hil
  have HFD : Hid (∀ (id : Int) (x : World), Below w.heap.size w x → Calls Tryz.prog 11 #[.agg #[.slice A g.nodes.length c, .slice A' g.ties.length c'], .int .i64 id] x fun e w' => e = .returned (.int .i64 (if fhas g.nodes id = true then (fpos g.nodes id : Int) else -1)) ∧ Below x.heap.size x w') :=
    fun id x hx => by rw [← rfI_eq hch]; exact rgfind_any g _ _ id x (hg'.below hx)
  clear hok h0 hch hi
  go_enter Tryz.func12, Tryz.ntmps12
  go_wp2_with fail
  clear hmk
  generalize hW : w.alloc (.cells #[.slice A g.nodes.length c, .slice A' g.ties.length c'] 29) = W1 at q0 q1 hb0 hW1
  clear hW
  have HW1 := Lib.hid hW1
  have hS0 : RfW (w.heap.size + 1) W1 (W1.alloc (.cells (madeCells #[.int .i64 0] g.nodes.length) 3)) g.nodes.length ((farS g.nodes.length i).take 0 ++ List.replicate (g.nodes.length - 0) 0) := by
    refine ⟨(Below.refl _ _).alloc (by omega) _, by simp, .inr ⟨w.heap.size + 1, 0, _, _, rfl, Nat.le_refl _, heap_at_new _ _ _ hW1.symm, Nat.le_refl _, by unfold maxLen; omega, ?_, ?_⟩⟩
    · have : (madeCells #[Value.int .i64 0] g.nodes.length).size = g.nodes.length := by rw [← Array.length_toList, toList_madeCells_one]; simp
      omega
    · rw [made_ints]; simp
  clear hW1
  go_loopw [6] (fun i' wr => ∃ k : Nat, k ≤ g.nodes.length ∧ i' = .int .i64 k ∧ RfW (w.heap.size + 1) W1 wr g.nodes.length ((farS g.nodes.length i).take k ++ List.replicate (g.nodes.length - k) 0)) (fun i' _ => g.nodes.length - (intOf i').toNat)
  case atStart => exact ⟨0, Nat.zero_le _, rfl, hS0⟩
  case round =>
    obtain ⟨k, hk, rfl, hS⟩ := hrel
    clear hS0
    have hbw : Below w.heap.size w wr := hb0.trans (hS.bel.mono (by omega))
    have r0 : wr.cell? ⟨w.heap.size, 0, none⟩ = some (.slice A g.nodes.length c) := (hS.bel.cell (by show w.heap.size < _; omega)).trans q0
    have r1 : wr.cell? ⟨w.heap.size, 1, none⟩ = some (.slice A' g.ties.length c') := (hS.bel.cell (by show w.heap.size < _; omega)).trans q1
    by_cases hk2 : k < g.nodes.length
    · have hk2' : (k : Int) < (g.nodes.length : Int) := by omega
      obtain ⟨d, hd⟩ : ∃ d, g.nodes[k]? = some d := ⟨_, List.getElem?_eq_getElem hk2⟩
      have hSl := farS_len g.nodes.length i
      have hcell : wr.cell? ⟨w.heap.size + 1, k, none⟩ = some (.int .i64 0) := own_at0 hS.out (fillS_at hSl hk2)
      have hfro := hS.free k
      have hS1 := hS.set hk2 (-1)
      have hcell1 : (wr.setCell ⟨w.heap.size + 1, k, none⟩ (.int .i64 (-1))).cell? ⟨w.heap.size + 1, k, none⟩ = some (.int .i64 (-1)) := own_at0 (own_set0 hS.out hk2 (.int .i64 (-1))) (by rw [List.getElem?_set_self (by have := hS.out.1; omega)])
      have hfro1 := hS1.free k
      have hb1 : Below w.heap.size w (wr.setCell ⟨w.heap.size + 1, k, none⟩ (.int .i64 (-1))) := hb0.trans (hS1.bel.mono (by omega))
      have r2 : (wr.setCell ⟨w.heap.size + 1, k, none⟩ (.int .i64 (-1))).cell? ⟨w.heap.size, 0, none⟩ = some (.slice A g.nodes.length c) := (hS1.bel.cell (by show w.heap.size < _; omega)).trans q0
      obtain ⟨b, o, rfl, u, _, _, _, c0, _, _⟩ := nod_at (hn.below hb1) hd
      by_cases hq : k = i
      · have hdi : d = nd := by subst hq; exact Option.some.inj (hd.symm.trans HI.out)
        subst hdi
        have hqb : (d.id == d.id) = true := by rw [beq_iff_eq]
        have hST : Hid (RfW (w.heap.size + 1) W1 ((wr.setCell ⟨w.heap.size + 1, k, none⟩ (.int .i64 (-1))).setCell ⟨w.heap.size + 1, k, none⟩ (.int .i64 0)) g.nodes.length ((farS g.nodes.length i).take (k + 1) ++ List.replicate (g.nodes.length - (k + 1)) 0)) := by
          refine ⟨(hS1.set hk2 0).bel, ?_⟩
          have h2 := (hS1.set hk2 0).out
          rw [List.map_set, List.map_set, List.set_set, fillS_step hSl hk2 (by rw [farS_at hk2, if_pos hq])] at h2
          exact h2
        clear hd hq hS hS1
        go_wp2_with fail
        go_roundw
        case rel => exact ⟨k + 1, by omega, by go_num, hST.out⟩
        case measure => simp [intOf]; omega
      · have hqb : (d.id == nd.id) = false := by rw [beq_eq_false_iff_ne]; exact fun e => hq (idx_uniq HCH.out HI.out hd e)
        have hST : Hid (RfW (w.heap.size + 1) W1 (wr.setCell ⟨w.heap.size + 1, k, none⟩ (.int .i64 (-1))) g.nodes.length ((farS g.nodes.length i).take (k + 1) ++ List.replicate (g.nodes.length - (k + 1)) 0)) := by
          refine ⟨hS1.bel, ?_⟩
          have h2 := hS1.out
          rw [List.map_set, fillS_step hSl hk2 (by rw [farS_at hk2, if_neg hq])] at h2
          exact h2
        clear hd hq hS hS1
        go_wp2_with fail
        go_roundw
        case rel => exact ⟨k + 1, by omega, by go_num, hST.out⟩
        case measure => simp [intOf]; omega
    · obtain rfl : k = g.nodes.length := by omega
      have hS2 : RfW (w.heap.size + 1) W1 wr g.nodes.length (farS g.nodes.length i) := by
        have : (farS g.nodes.length i).take g.nodes.length ++ List.replicate (g.nodes.length - g.nodes.length) 0 = farS g.nodes.length i := by
          rw [Nat.sub_self, List.take_of_length_le (by rw [farS_len]; exact Nat.le_refl _)]; simp
        rw [this] at hS; exact hS
      clear hS r0 r1 hbw
      have HR := fun k => Lib.hid (rRounds_len g k (farS g.nodes.length i))
      go_wp2_with fail
      go_loopw [7] (fun i' wr => ∃ k : Nat, k ≤ g.nodes.length ∧ i' = .int .i64 k ∧ RfW (w.heap.size + 1) W1 wr g.nodes.length (rRounds g k (farS g.nodes.length i))) (fun i' _ => g.nodes.length - (intOf i').toNat)
      case atStart => exact ⟨0, Nat.zero_le _, rfl, hS2⟩
      case round =>
        obtain ⟨d, hd, rfl, hF⟩ := hrel
        clear hS2
        by_cases hd2 : d < g.nodes.length
        · have hd2' : (d : Int) < (g.nodes.length : Int) := by omega
          have hst : (rRounds g d (farS g.nodes.length i)).length = g.nodes.length := by rw [(HR d).out, farS_len]
          generalize hs0 : rRounds g d (farS g.nodes.length i) = s0 at *
          have HS0 : Hid (rRounds g (d + 1) (farS g.nodes.length i) = g.ties.foldl (rTie g.nodes d) s0) := by unfold Hid; rw [← hs0]; rfl
          clear hs0
          go_wp2_with fail
          go_loopw [8] (fun i' wr => ∃ (k : Nat) (s1 : List Int), k ≤ g.ties.length ∧ i' = .int .i64 k ∧ s1.length = g.nodes.length ∧ RfW (w.heap.size + 1) W1 wr g.nodes.length s1 ∧ Hid (g.ties.foldl (rTie g.nodes d) s0 = (g.ties.drop k).foldl (rTie g.nodes d) s1)) (fun i' _ => g.ties.length - (intOf i').toNat)
          case atStart => exact ⟨0, s0, Nat.zero_le _, rfl, hst, hF, rfl⟩
          case round =>
            obtain ⟨k, s1, hk, rfl, hs1, hF1, HT⟩ := hrel
            clear hF hst
            have hbw : Below w.heap.size w wr := hb0.trans (hF1.bel.mono (by omega))
            have r0 : wr.cell? ⟨w.heap.size, 0, none⟩ = some (.slice A g.nodes.length c) := (hF1.bel.cell (by show w.heap.size < _; omega)).trans q0
            have r1 : wr.cell? ⟨w.heap.size, 1, none⟩ = some (.slice A' g.ties.length c') := (hF1.bel.cell (by show w.heap.size < _; omega)).trans q1
            by_cases hkt : k < g.ties.length
            · have hkt' : (k : Int) < (g.ties.length : Int) := by omega
              obtain ⟨t, htt⟩ : ∃ d, g.ties[k]? = some d := ⟨_, List.getElem?_eq_getElem hkt⟩
              obtain ⟨bt, ot, rfl, htok, x0, x1, x2⟩ := tie_at (ht.below hbw) htt
              have HTT : Hid (g.ties.foldl (rTie g.nodes d) s0 = (g.ties.drop (k + 1)).foldl (rTie g.nodes d) (rTie g.nodes d s1 t)) := fold_drop HT.out htt
              have HNO := Lib.hid (rTie_no (nodes := g.nodes) (d := (d : Int)) (st := s1) (t := t))
              have HYES := Lib.hid (rTie_yes (nodes := g.nodes) (d := (d : Int)) (st := s1) (t := t))
              have HL1 : Hid (fhas g.nodes t.src = true → fpos g.nodes t.src < g.nodes.length) := fhas_lt
              have HL2 : Hid (fhas g.nodes t.dst = true → fpos g.nodes t.dst < g.nodes.length) := fhas_lt
              have HC1 := Lib.hid (HFD.out t.src)
              have HC2 := Lib.hid (HFD.out t.dst)
              generalize rTie g.nodes d s1 t = s2 at *
              have HZ1 : Hid ((if fhas g.nodes t.src = true then (fpos g.nodes t.src : Int) else -1) = if fhas g.nodes t.src = true then (fpos g.nodes t.src : Int) else -1) := rfl
              have HZ2 : Hid ((if fhas g.nodes t.dst = true then (fpos g.nodes t.dst : Int) else -1) = if fhas g.nodes t.dst = true then (fpos g.nodes t.dst : Int) else -1) := rfl
              generalize hz1 : (if fhas g.nodes t.src = true then (fpos g.nodes t.src : Int) else -1) = z1 at HC1
              generalize hz2 : (if fhas g.nodes t.dst = true then (fpos g.nodes t.dst : Int) else -1) = z2 at HC2
              rw [hz1] at HZ1
              rw [hz2] at HZ2
              have HZ1 : Hid (z1 = if fhas g.nodes t.src = true then (fpos g.nodes t.src : Int) else -1) := hz1.symm
              have HZ2 : Hid (z2 = if fhas g.nodes t.dst = true then (fpos g.nodes t.dst : Int) else -1) := hz2.symm
              clear hz1 hz2
              generalize fhas g.nodes t.src = f1 at *
              generalize fhas g.nodes t.dst = f2 at *
              generalize fpos g.nodes t.src = p1 at *
              generalize fpos g.nodes t.dst = p2 at *
              clear HT htt htok
              go_wp2_with fail
              refine wp_mid_k 7 _ rfl rfl (by kernel_rfl) (by kernel_rfl) ?_
              simp only [List.take_succ_cons, List.take_zero, List.drop_succ_cons, List.drop_zero]
              repeat (go_big_quiet_step (fail))
              refine wpQuiet_nil ?_
              intro _ hw'
              obtain ⟨nq, hw''⟩ := hw'
              subst hw''
              intro K hK
              have hx := HC1.out (wr.drewN nq) (below_drewN hbw _)
              go_wp2_with fail
              refine hx.mono ?_
              clear hx HC1
              rintro e w3 ⟨rfl, hb3⟩
              refine hK _ _ ?_
              repeat (go_big_quiet_step (fail))
              refine wpQuiet_nil ?_
              intro _ hw'
              obtain ⟨nq2, hw''⟩ := hw'
              subst hw''
              clear hK
              have hb13 := below_drewN ((below_drewN (Below.refl wr.heap.size wr) nq).trans hb3) nq2
              generalize w3.drewN nq2 = w4 at *
              have hF2 := hF1.below hb13
              have hbw4 := hbw.trans (hb13.mono hbw.size)
              have r0 := cell_below hb13 r0
              have r1 := cell_below hb13 r1
              have x1 := cell_below hb13 x1
              have x2 := cell_below hb13 x2
              clear hb3 hb13 hbw x0 hF1
              go_wp2_with fail
              refine wp_mid_k 7 _ rfl rfl (by kernel_rfl) (by kernel_rfl) ?_
              simp only [List.take_succ_cons, List.take_zero, List.drop_succ_cons, List.drop_zero]
              repeat (go_big_quiet_step (fail))
              refine wpQuiet_nil ?_
              intro _ hw'
              obtain ⟨nq, hw''⟩ := hw'
              subst hw''
              intro K hK
              have hx := HC2.out (w4.drewN nq) (below_drewN hbw4 _)
              go_wp2_with fail
              refine hx.mono ?_
              clear hx HC2
              rintro e w3 ⟨rfl, hb3⟩
              refine hK _ _ ?_
              repeat (go_big_quiet_step (fail))
              refine wpQuiet_nil ?_
              intro _ hw'
              obtain ⟨nq2, hw''⟩ := hw'
              subst hw''
              clear hK
              have hb13 := below_drewN ((below_drewN (Below.refl w4.heap.size w4) nq).trans hb3) nq2
              generalize w3.drewN nq2 = w5 at *
              have hF1 := hF2.below hb13
              have hbw := hbw4.trans (hb13.mono hbw4.size)
              have r0 := cell_below hb13 r0
              have r1 := cell_below hb13 r1
              clear hb3 hb13 hbw4 x1 x2 hF2
              have hcont : ∀ (s3 : List Int) (wx : World), s2 = s3 → s3.length = g.nodes.length → RfW (w.heap.size + 1) W1 wx g.nodes.length s3 → ∃ (k' : Nat) (s1 : List Int), k' ≤ g.ties.length ∧ Value.int .i64 ((k : Int) + 1) = .int .i64 k' ∧ s1.length = g.nodes.length ∧ RfW (w.heap.size + 1) W1 wx g.nodes.length s1 ∧ Hid (g.ties.foldl (rTie g.nodes d) s0 = (g.ties.drop k').foldl (rTie g.nodes d) s1) :=
                fun s3 wx h1 h2 h3 => ⟨k + 1, s3, by omega, by go_num, h2, h3, by unfold Hid; rw [HTT.out, h1]⟩
              have HCO := Lib.hid hcont
              clear hcont HTT
              cases f1 with
              | false =>
                have hz : z1 = -1 := HZ1.out
                subst hz
                have HN := Lib.hid (HNO.out (by simp))
                clear HZ1 HZ2 HNO HYES HL1 HL2
                go_wp2_with fail
                go_roundw
                case rel => exact HCO.out _ _ HN.out hs1 hF1
                case measure => simp [intOf]; omega
              | true =>
              have hz : z1 = (p1 : Int) := HZ1.out
              subst hz
              have hp1 := HL1.out rfl
              have hp1z : decide ((p1 : Int) < 0) = false := decide_eq_false (by omega)
              cases f2 with
              | false =>
                have hz : z2 = -1 := HZ2.out
                subst hz
                have HN := Lib.hid (HNO.out (by simp))
                clear HZ1 HZ2 HNO HYES HL1 HL2
                go_wp2_with fail
                go_roundw
                case rel => exact HCO.out _ _ HN.out hs1 hF1
                case measure => simp [intOf]; omega
              | true =>
              have hz : z2 = (p2 : Int) := HZ2.out
              subst hz
              have hp2 := HL2.out rfl
              have hp2z : decide ((p2 : Int) < 0) = false := decide_eq_false (by omega)
              have hp1' : (p1 : Int) < (g.nodes.length : Int) := by omega
              have hp2' : (p2 : Int) < (g.nodes.length : Int) := by omega
              have HN := Lib.hid (HYES.out rfl rfl)
              have hdw : IntKind.i64.wrap ((d : Int) + 1) = (d : Int) + 1 := IntWalk.i64_in _ (by omega)
              clear HZ1 HZ2 HNO HYES HL1 HL2
              have a1 := hF1.at hp1 hs1
              have a2 := hF1.at hp2 hs1
              have f1 := hF1.free p1
              have f2 := hF1.free p2
              obtain ⟨va, hva⟩ : ∃ v, s1.getD p1 0 = v := ⟨_, rfl⟩
              obtain ⟨vb, hvb⟩ : ∃ v, s1.getD p2 0 = v := ⟨_, rfl⟩
              rw [hva] at a1
              rw [hvb] at a2
              by_cases c1 : va = (d : Int)
              · have c1b : (va == (d : Int)) = true := by rw [beq_iff_eq]; exact c1
                by_cases c2 : vb < 0
                · have c2b : decide (vb < 0) = true := decide_eq_true c2
                  have hne : p2 ≠ p1 := fun e => by rw [e, hva] at hvb; omega
                  have hF2 := hF1.set hp2 ((d : Int) + 1)
                  have hs2 : (s1.set p2 ((d : Int) + 1)).length = g.nodes.length := by rw [List.length_set]; exact hs1
                  have b2 := hF2.at hp2 hs2
                  rw [getD_set_self (by omega)] at b2
                  have hd1 : ((d : Int) + 1 == (d : Int)) = false := by rw [beq_eq_false_iff_ne]; omega
                  have HN2 : Hid (s2 = s1.set p2 ((d : Int) + 1)) := by
                    unfold Hid
                    rw [HN.out, relax_yes (x := p1) (y := p2) (st := s1) (by rw [hva]; exact c1) (by rw [hvb]; exact c2), relax_no (fun h => by rw [getD_set_self (by omega)] at h; omega)]
                  clear hva hvb c1 c2 HN hne hF1 hs1
                  go_wp2_with fail
                  go_roundw
                  case rel => exact HCO.out _ _ HN2.out hs2 hF2
                  case measure => simp [intOf]; omega
                · have c2b : decide (vb < 0) = false := decide_eq_false c2
                  have c3b : decide (va < 0) = false := decide_eq_false (by omega)
                  have HN2 : Hid (s2 = s1) := by
                    unfold Hid
                    rw [HN.out, relax_no (x := p1) (y := p2) (st := s1) (fun h => by rw [hvb] at h; exact c2 h.2), relax_no (fun h => by rw [hva] at h; omega)]
                  clear hva hvb c1 c2 HN
                  cases hqb : (vb == (d : Int))
                  · go_wp2_with fail
                    go_roundw
                    case rel => exact HCO.out _ _ HN2.out hs1 hF1
                    case measure => simp [intOf]; omega
                  · go_wp2_with fail
                    go_roundw
                    case rel => exact HCO.out _ _ HN2.out hs1 hF1
                    case measure => simp [intOf]; omega
              · have c1b : (va == (d : Int)) = false := by rw [beq_eq_false_iff_ne]; exact c1
                have HR1 : Hid (relax d p1 p2 s1 = s1) := relax_no (fun h => by rw [hva] at h; exact c1 h.1)
                by_cases c2 : vb = (d : Int)
                · have c2b : (vb == (d : Int)) = true := by rw [beq_iff_eq]; exact c2
                  by_cases c3 : va < 0
                  · have c3b : decide (va < 0) = true := decide_eq_true c3
                    have hF2 := hF1.set hp1 ((d : Int) + 1)
                    have hs2 : (s1.set p1 ((d : Int) + 1)).length = g.nodes.length := by rw [List.length_set]; exact hs1
                    have HN2 : Hid (s2 = s1.set p1 ((d : Int) + 1)) := by
                      unfold Hid
                      rw [HN.out, HR1.out, relax_yes (by rw [hvb]; exact c2) (by rw [hva]; exact c3)]
                    clear hva hvb c1 c2 c3 HN hF1 hs1
                    go_wp2_with fail
                    go_roundw
                    case rel => exact HCO.out _ _ HN2.out hs2 hF2
                    case measure => simp [intOf]; omega
                  · have c3b : decide (va < 0) = false := decide_eq_false c3
                    have HN2 : Hid (s2 = s1) := by
                      unfold Hid
                      rw [HN.out, HR1.out, relax_no (fun h => by rw [hva] at h; exact c3 h.2)]
                    clear hva hvb c1 c2 c3 HN
                    go_wp2_with fail
                    go_roundw
                    case rel => exact HCO.out _ _ HN2.out hs1 hF1
                    case measure => simp [intOf]; omega
                · have c2b : (vb == (d : Int)) = false := by rw [beq_eq_false_iff_ne]; exact c2
                  have HN2 : Hid (s2 = s1) := by
                    unfold Hid
                    rw [HN.out, HR1.out, relax_no (fun h => by rw [hvb] at h; exact c2 h.1)]
                  clear hva hvb c1 c2 HN
                  go_wp2_with fail
                  go_roundw
                  case rel => exact HCO.out _ _ HN2.out hs1 hF1
                  case measure => simp [intOf]; omega
            · obtain rfl : k = g.ties.length := by omega
              have HN : Hid (rRounds g (d + 1) (farS g.nodes.length i) = s1) := by unfold Hid; rw [HS0.out, HT.out, List.drop_length]; rfl
              go_wp2_with fail
              go_roundw
              case rel => exact ⟨d + 1, by omega, by go_num, by rw [HN.out]; exact hF1⟩
              case measure => simp [intOf]; omega
        · obtain rfl : d = g.nodes.length := by omega
          have hfin : Own wr w.heap.size 3 1 (.slice (some ⟨w.heap.size + 1, 0, none⟩) g.nodes.length g.nodes.length) g.nodes.length ((farI g i).map (Value.int .i64)) := by
            have := hF.out
            rw [HFE.out] at this
            exact this.mono (by omega)
          have hbw : Below w.heap.size w wr := hb0.trans (hF.bel.mono (by omega))
          have HX := Lib.hid (And.intro hfin hbw)
          clear hfin hbw hF
          go_wp2_with fail
          go_ret
          exact ⟨_, rfl, HX.out.1, HX.out.2⟩
end Go.Proofs.YtfjnkidblalckaaGreatDoor

/- Plain: the parts of a graph: each node is in just one, and a part is what hangs together with its first node. -/
namespace Go.Proofs.YtfjnkidblalckaaGreatDoor

/-- Does k hang together with j? -/
def rch (g : Grf) (j k : Nat) : Bool := decide (0 ≤ (farI g j).getD k 0)
theorem partFrom_eq (g : Grf) (fl : List Int) : ∀ (f k : Nat) (acc : List Int), partFrom g fl k f acc = acc ++ ((List.range' k f).filter fun m => decide (0 ≤ fl.getD m 0)).map (idAt g.nodes)
  | 0, k, acc => by simp [partFrom]
  | f + 1, k, acc => by
    rw [partFrom, partFrom_eq g fl f (k + 1), List.range'_succ, List.filter_cons]
    by_cases h : 0 ≤ fl.getD k 0
    · simp only [h, if_true, decide_true, List.map_cons, List.append_assoc, List.cons_append, List.nil_append]
    · simp only [h, if_false, decide_false, Bool.false_eq_true]
theorem partOf_eq (g : Grf) (j : Nat) : partOf g j = ((List.range g.nodes.length).filter (rch g j)).map (idAt g.nodes) := by
  unfold partOf
  rw [partFrom_eq, List.nil_append, List.range_eq_range']
  rfl
theorem partOf_len (g : Grf) (j : Nat) : (partOf g j).length = (List.range g.nodes.length).countP (rch g j) := by
  rw [partOf_eq, List.length_map, List.countP_eq_length_filter]
theorem rch_conn {g : Grf} (hch : chain nodLt g.nodes = true) {j k : Nat} (hj : j < g.nodes.length) (hk : k < g.nodes.length) : rch g j k = true ↔ Conn g j k := by
  unfold rch; rw [decide_eq_true_eq]; exact far_reach hch hj hk
theorem partOf_mem {g : Grf} (hch : chain nodLt g.nodes = true) {j k : Nat} (hk : k < g.nodes.length) : idAt g.nodes k ∈ partOf g j ↔ rch g j k = true := by
  rw [partOf_eq, List.mem_map]
  constructor
  · rintro ⟨m, hm, he⟩
    rw [List.mem_filter, List.mem_range] at hm
    have := idAt_inj hch hm.1 hk he
    subst this
    exact hm.2
  · intro h
    exact ⟨k, by rw [List.mem_filter, List.mem_range]; exact ⟨hk, h⟩, rfl⟩
theorem partOf_any {g : Grf} (hch : chain nodLt g.nodes = true) {j k : Nat} (hk : k < g.nodes.length) : (partOf g j).any (fun y => idAt g.nodes k == y) = rch g j k := by
  rw [Bool.eq_iff_iff, List.any_eq_true, ← partOf_mem hch hk]
  constructor
  · rintro ⟨y, hy, he⟩
    have := eq_of_beq he
    subst this
    exact hy
  · intro h
    exact ⟨_, h, by simp⟩
theorem partOf_any' {g : Grf} (hch : chain nodLt g.nodes = true) {j k : Nat} (hk : k < g.nodes.length) : (partOf g j).any (fun y => y == idAt g.nodes k) = rch g j k := by
  rw [← partOf_any hch hk]
  congr 1
  funext y
  rw [Bool.eq_iff_iff]; simp only [beq_iff_eq]; exact ⟨Eq.symm, Eq.symm⟩

/-- Is m in one of these parts? -/
def cov (g : Grf) (js : List Nat) (m : Nat) : Bool := js.any fun j => rch g j m
theorem countP_or {p q : Nat → Bool} : ∀ (l : List Nat), (∀ m ∈ l, ¬ (p m = true ∧ q m = true)) → l.countP (fun m => p m || q m) = l.countP p + l.countP q
  | [], _ => rfl
  | a :: l, h => by
    have ih := countP_or l (fun m hm => h m (by simp [hm]))
    have h0 := h a (by simp)
    simp only [List.countP_cons, ih]
    cases hp : p a <;> cases hq : q a <;> simp [hp, hq] at h0 ⊢ <;> omega

structure PInv (g : Grf) (k : Nat) (js : List Nat) : Prop where
  small : ∀ j ∈ js, j < g.nodes.length
  sum : (js.map fun j => (partOf g j).length).sum = (List.range g.nodes.length).countP (cov g js)
  all : ∀ m, m < k → cov g js m = true
theorem PInv.step {g : Grf} (hch : chain nodLt g.nodes = true) {k : Nat} {js : List Nat} (hk : k < g.nodes.length) (h : PInv g k js) : PInv g (k + 1) (if cov g js k = true then js else js ++ [k]) := by
  by_cases hc : cov g js k = true
  · rw [if_pos hc]
    refine ⟨h.small, h.sum, fun m hm => ?_⟩
    by_cases e : m = k
    · subst e; exact hc
    · exact h.all m (by omega)
  · rw [if_neg hc]
    refine ⟨?_, ?_, ?_⟩
    · intro j hj
      rcases List.mem_append.1 hj with h1 | h1
      · exact h.small j h1
      · simp at h1; subst h1; exact hk
    · have e1 : cov g (js ++ [k]) = fun m => cov g js m || rch g k m := by funext m; simp [cov]
      rw [e1, countP_or, ← h.sum, ← partOf_len]
      · simp
      · rintro m hm ⟨h1, h2⟩
        rw [List.mem_range] at hm
        unfold cov at h1 hc
        obtain ⟨j, hj, hjm⟩ := List.any_eq_true.1 h1
        apply hc
        refine List.any_eq_true.2 ⟨j, hj, ?_⟩
        have hjl := h.small j hj
        rw [rch_conn hch hjl hk]
        exact ((rch_conn hch hjl hm).1 hjm).trans ((rch_conn hch hk hm).1 h2).symm
    · intro m hm
      by_cases e : m = k
      · subst e
        unfold cov
        rw [List.any_append]
        have : rch g m m = true := (rch_conn hch hk hk).2 .refl
        simp [this]
      · have := h.all m (by omega)
        unfold cov at this ⊢
        rw [List.any_append, this]; rfl
theorem partsFrom_js {g : Grf} (hch : chain nodLt g.nodes = true) : ∀ (f k : Nat) (js : List Nat), k + f = g.nodes.length → PInv g k js → ∃ js', partsFrom g k f (js.map (partOf g)) = js'.map (partOf g) ∧ PInv g g.nodes.length js'
  | 0, k, js, hkf, h => by
    obtain rfl : k = g.nodes.length := by omega
    exact ⟨js, rfl, h⟩
  | f + 1, k, js, hkf, h => by
    have hk : k < g.nodes.length := by omega
    have e1 : (js.map (partOf g)).any (fun l => l.any fun y => idAt g.nodes k == y) = cov g js k := by
      rw [List.any_map]
      unfold cov
      congr 1
      funext j
      exact partOf_any hch hk
    have hs := h.step hch hk
    rw [partsFrom, e1]
    by_cases hc : cov g js k = true
    · rw [if_pos hc] at hs ⊢
      exact partsFrom_js hch f (k + 1) js (by omega) hs
    · rw [if_neg hc] at hs ⊢
      have := partsFrom_js hch f (k + 1) (js ++ [k]) (by omega) hs
      simpa using this
theorem parts_js {g : Grf} (hch : chain nodLt g.nodes = true) : ∃ js, partsI g = js.map (partOf g) ∧ PInv g g.nodes.length js := by
  have h0 : PInv g 0 [] := ⟨by simp, by show 0 = List.countP (cov g []) _; exact (List.countP_eq_zero.2 (by intro m _; simp [cov])).symm, by intro m hm; omega⟩
  exact partsFrom_js hch g.nodes.length 0 [] (by omega) h0
theorem countP_all {p : Nat → Bool} : ∀ (l : List Nat), (∀ m ∈ l, p m = true) → l.countP p = l.length
  | [], _ => rfl
  | a :: l, h => by
    have ih := countP_all l (fun m hm => h m (by simp [hm]))
    simp [h a (by simp), ih]
/-- ALL OF THEM, ONCE. -/
theorem parts_sum {g : Grf} (hch : chain nodLt g.nodes = true) : ((partsI g).map List.length).sum = g.nodes.length := by
  obtain ⟨js, h1, h2⟩ := parts_js hch
  rw [h1, List.map_map]
  show (js.map fun j => (partOf g j).length).sum = _
  rw [h2.sum, countP_all _ (fun m hm => h2.all m (List.mem_range.1 hm)), List.length_range]
/-- A part: its first node, and who hangs together with it. -/
theorem parts_each {g : Grf} (hch : chain nodLt g.nodes = true) {p : List Int} (hp : p ∈ partsI g) :
    ∃ m rest, p = idAt g.nodes m :: rest ∧ m < g.nodes.length ∧ ∀ k, k < g.nodes.length → p.any (fun y => y == idAt g.nodes k) = decide (0 ≤ (farI g m).getD k 0) := by
  obtain ⟨js, h1, h2⟩ := parts_js hch
  rw [h1] at hp
  obtain ⟨j, hj, rfl⟩ := List.mem_map.1 hp
  have hjl := h2.small j hj
  have hne : idAt g.nodes j ∈ partOf g j := (partOf_mem hch hjl).2 ((rch_conn hch hjl hjl).2 .refl)
  cases hpj : partOf g j with
  | nil => rw [hpj] at hne; cases hne
  | cons a rest =>
    have ha : a ∈ partOf g j := by rw [hpj]; simp
    rw [partOf_eq, List.mem_map] at ha
    obtain ⟨m, hm, rfl⟩ := ha
    rw [List.mem_filter, List.mem_range] at hm
    refine ⟨m, rest, rfl, hm.1, fun k hk => ?_⟩
    rw [← hpj, partOf_any' hch hk]
    show rch g j k = rch g m k
    have hjm := (rch_conn hch hjl hm.1).1 hm.2
    rw [Bool.eq_iff_iff, rch_conn hch hjl hk, rch_conn hch hm.1 hk]
    exact ⟨fun h => hjm.symm.trans h, fun h => hjm.trans h⟩
theorem far_of_id {g : Grf} (h0 : grfE g = 0) {m : Nat} (hm : m < g.nodes.length) : farE g (idAt g.nodes m) = 0 ∧ farL g (idAt g.nodes m) = farI g m := by
  obtain ⟨_, _, hch, _⟩ := grf_ok h0
  obtain ⟨h1, h2⟩ := (fhas_iff hch (id := idAt g.nodes m) (k := m)).2 ⟨hm, rfl⟩
  unfold farE farL
  simp [h0, h1, h2]
end Go.Proofs.YtfjnkidblalckaaGreatDoor

/- Plain: the document's parts, by marks, are those of the program. No condition. -/
namespace Go.Proofs.YtfjnkidblalckaaGreatDoor

def rMark (dn : List Bool) (fl : List Int) : List Bool := (List.range dn.length).map fun j => dn.getD j false || decide (0 ≤ fl.getD j 0)
def rPartsFrom (g : Grf) : Nat → Nat → List Bool → List (List Int) → List (List Int)
  | _, 0, _, acc => acc
  | k, f + 1, dn, acc => if dn.getD k false = true then rPartsFrom g (k + 1) f dn acc else rPartsFrom g (k + 1) f (rMark dn (farI g k)) (acc ++ [partOf g k])
def rPartsI (g : Grf) : List (List Int) := rPartsFrom g 0 g.nodes.length (List.replicate g.nodes.length false) []
theorem rMark_len (dn : List Bool) (fl : List Int) : (rMark dn fl).length = dn.length := by simp [rMark]
theorem rMark_get {dn : List Bool} {fl : List Int} {j : Nat} (h : j < dn.length) : (rMark dn fl).getD j false = (dn.getD j false || decide (0 ≤ fl.getD j 0)) := by
  unfold rMark
  simp only [List.getD, List.getElem?_map, List.getElem?_range h, Option.map_some, Option.getD_some]
theorem rparts_from {g : Grf} (hch : chain nodLt g.nodes = true) : ∀ (f k : Nat) (dn : List Bool) (acc : List (List Int)), k + f = g.nodes.length → dn.length = g.nodes.length →
    (∀ j, j < g.nodes.length → dn.getD j false = acc.any (fun l => l.any fun y => idAt g.nodes j == y)) → rPartsFrom g k f dn acc = partsFrom g k f acc
  | 0, _, _, _, _, _, _ => rfl
  | f + 1, k, dn, acc, hkf, hl, h => by
    have hk : k < g.nodes.length := by omega
    unfold rPartsFrom partsFrom
    rw [h k hk]
    cases hq : acc.any (fun l => l.any fun y => idAt g.nodes k == y) with
    | true =>
      rw [if_pos rfl, if_pos rfl]
      exact rparts_from hch f (k + 1) dn acc (by omega) hl h
    | false =>
      rw [if_neg (by simp), if_neg (by simp)]
      refine rparts_from hch f (k + 1) _ _ (by omega) (by rw [rMark_len, hl]) (fun j hj => ?_)
      rw [rMark_get (by rw [hl]; exact hj), h j hj, List.any_append]
      simp only [List.any_cons, List.any_nil, Bool.or_false]
      rw [partOf_any hch hj]
      rfl
theorem rparts_eq {g : Grf} (hch : chain nodLt g.nodes = true) : rPartsI g = partsI g := by
  unfold rPartsI partsI
  refine rparts_from hch _ _ _ _ (by omega) (by simp) (fun j hj => ?_)
  simp [List.getD, hj]
end Go.Proofs.YtfjnkidblalckaaGreatDoor
