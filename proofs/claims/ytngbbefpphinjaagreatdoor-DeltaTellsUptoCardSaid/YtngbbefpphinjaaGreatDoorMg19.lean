/- Parts: DoA, RlB, DoB. -/
import Derived.Test.YtngbbefpphinjaaGreatDoorMg13
import Derived.Test.YtngbbefpphinjaaGreatDoorMg15
import Derived.Test.YtngbbefpphinjaaGreatDoorMg18
import Derived.Test.YtngbbefpphinjaaGreatDoorMg03
import Derived.Test.YtngbbefpphinjaaGreatDoorMg12
import Derived.Test.YtngbbefpphinjaaGreatDoorMg08
import Derived.Test.YtngbbefpphinjaaGreatDoorMg05
import Derived.Deep.DeepCutAuto
/- Contracts: slices.Contains at ties, delta.kept. No condition but that the graph's nodes are in order. -/
namespace Go.Proofs.YtngbbefpphinjaaGreatDoor
open Go Go.RowKit


theorem tie_eql (x y : Tie) (w : World) : (binOp .eql 35 (.agg #[.string x.bond, .int .i64 x.src, .int .i64 x.dst]) (.agg #[.string y.bond, .int .i64 y.src, .int .i64 y.dst])).run Tryz.prog w = .ok (.bool (decide (x = y))) w := by
  rw [run_eql_struct, show (10000 : Nat) = 9998 + 2 from rfl, tie_same]; rfl
set_option maxHeartbeats 1000000 in
theorem indexTie_any (l : List Tie) (t : Tie) (v : Value) (w : World) (hv : Sl tieL w v l) :
    Calls Tryz.prog 168 #[v, .agg #[.string t.bond, .int .i64 t.src, .int .i64 t.dst]] w fun e w' => e = .returned (.int .i64 (idxI (fun y => decide (t = y)) l)) ∧ Below w.heap.size w w' := by
  obtain ⟨A, c, rfl, hlc, hcm⟩ := hv.form
  unfold maxLen at hcm
  have hb0 : Below w.heap.size w (w.alloc (.cells #[.string t.bond, .int .i64 t.src, .int .i64 t.dst] 35)) := (Below.refl _ _).alloc (Nat.le_refl _) _
  obtain ⟨z0, z1, z2⟩ := cell_box3 w (.string t.bond) (.int .i64 t.src) (.int .i64 t.dst) 35
  have HV := Lib.hid (hv.below hb0)
  clear hv
  go_enter Tryz.func168, Tryz.ntmps168
  go_wp2_with fail
  generalize w.alloc (.cells #[.string t.bond, .int .i64 t.src, .int .i64 t.dst] 35) = W0 at *
  go_loopw [8] (fun i wr => ∃ k : Nat, k ≤ l.length ∧ i = .int .i64 k ∧ Below W0.heap.size W0 wr ∧ Hid (∀ j y, j < k → l[j]? = some y → decide (t = y) = false)) (fun i _ => l.length - (intOf i).toNat)
  case atStart => exact ⟨0, Nat.zero_le _, rfl, Below.refl _ _, fun j x hj => absurd hj (Nat.not_lt_zero _)⟩
  case round =>
    obtain ⟨k, hk, rfl, hb, HA⟩ := hrel
    have z0 := cell_below hb z0
    have z1 := cell_below hb z1
    have z2 := cell_below hb z2
    have hbX := hb0.trans (hb.mono hb0.size)
    by_cases hlt : k < l.length
    · obtain ⟨d, hd⟩ : ∃ d, l[k]? = some d := ⟨_, List.getElem?_eq_getElem hlt⟩
      have hlt' : (k : Int) < (l.length : Int) := by omega
      obtain ⟨b, o, rfl, _, x0, x1, x2⟩ := tie_at (HV.out.below hb) hd
      have HD : Hid (l[k]? = some d) := hd
      have heq := tie_eql t d
      have hgd := tie_guard
      have hMH : Hid (decide (t = d) = true → idxI (fun y => decide (t = y)) l = k) := fun h => idxI_hit (p := fun y => decide (t = y)) HA.out HD.out h
      have hMS : Hid (decide (t = d) = false → ∀ j y, j < k + 1 → l[j]? = some y → decide (t = y) = false) := fun h => miss_step (p := fun y => decide (t = y)) HA.out HD.out h
      clear hd
      generalize decide (t = d) = q at *
      cases q with
      | true =>
        have HE := Lib.hid (hMH.out rfl)
        go_wp2_with fail
        go_quiet (fail)
        go_wp2_with fail
        go_ret
        exact ⟨by rw [HE.out]; rfl, below_drewN hbX _⟩
      | false =>
        have HS := Lib.hid (hMS.out rfl)
        go_wp2_with fail
        go_quiet (fail)
        go_wp2_with fail
        go_roundw
        case rel => exact ⟨k + 1, by omega, by go_num, below_drewN hb _, HS⟩
        case measure => simp [intOf]; omega
    · have hkl : k = l.length := by omega
      subst hkl
      have HE : Hid (idxI (fun y => decide (t = y)) l = -1) := idxI_miss HA.out
      go_wp2_with fail
      go_ret
      exact ⟨by rw [HE.out]; rfl, hbX⟩
theorem any_mem {l : List Tie} {t : Tie} : (l.any fun y => decide (t = y)) = decide (t ∈ l) := by
  by_cases h : t ∈ l
  · rw [decide_eq_true h]; exact List.any_eq_true.2 ⟨t, h, by simp⟩
  · rw [decide_eq_false h]
    cases hq : (l.any fun y => decide (t = y)) with
    | false => rfl
    | true =>
      obtain ⟨x, hx, e⟩ := List.any_eq_true.1 hq
      exact absurd (by rw [of_decide_eq_true e]; exact hx) h
theorem containsTie_any (l : List Tie) (t : Tie) (v : Value) (w : World) (hv : Sl tieL w v l) :
    Calls Tryz.prog 113 #[v, .agg #[.string t.bond, .int .i64 t.src, .int .i64 t.dst]] w fun e w' => e = .returned (.bool (decide (t ∈ l))) ∧ Below w.heap.size w w' := by
  have hb0 : Below w.heap.size w (w.alloc (.cells #[.string t.bond, .int .i64 t.src, .int .i64 t.dst] 35)) := (Below.refl _ _).alloc (Nat.le_refl _) _
  obtain ⟨z0, z1, z2⟩ := cell_box3 w (.string t.bond) (.int .i64 t.src) (.int .i64 t.dst) 35
  have h1 := indexTie_any l t v _ (hv.below hb0)
  have h2 := (idxI_any (fun y => decide (t = y)) l).trans any_mem
  have H2 := Lib.hid h2
  clear h2 hv
  go_enter Tryz.func113, Tryz.ntmps113
  go_wp2_with fail
  refine h1.mono ?_
  clear h1
  rintro e w' ⟨rfl, hb⟩
  go_wp2_with fail
  go_ret
  exact ⟨ret_bool H2.out, hb0.trans (hb.mono hb0.size)⟩

/-- The node that is kept, or none. -/
def keptD (g : Grf) (n : Nod) : Nod := match keptN g n with | some m => m | none => ⟨0, .empty, []⟩
theorem keptN_parts (g : Grf) (n : Nod) : (fhas g.nodes n.id = false → keptN g n = none) ∧ (∀ m, g.nodes[fpos g.nodes n.id]? = some m → fhas g.nodes n.id = true → keptN g n = if m.kind = n.kind then some m else none) := by
  unfold keptN
  refine ⟨fun h => ?_, fun m hm h => ?_⟩
  · cases hq : g.nodes[fpos g.nodes n.id]? with
    | none => rfl
    | some x => simp [h]
  · rw [hm]; simp [h]
def KeptRet (g : Grf) (n : Nod) (w : World) (e : Ending) (w' : World) : Prop :=
  ∃ u, e = .returned (.tuple #[.agg #[.int .i64 (keptD g n).id, .string (keptD g n).kind, u], .bool (keptN g n).isSome]) ∧ Sl prpL w' u (keptD g n).props ∧ Below w.heap.size w w'
set_option maxRecDepth 100000 in
set_option maxHeartbeats 4000000 in
theorem kept_any (g : Grf) (n : Nod) (vn vt u : Value) (w : World) (hg : GrfR w vn vt g) (hu : Sl prpL w u n.props) (hch : chain nodLt g.nodes = true) (hl : g.nodes.length ≤ 60) :
    Calls Tryz.prog 114 #[.agg #[vn, vt], .agg #[.int .i64 n.id, .string n.kind, u]] w (KeptRet g n w) := by
  obtain ⟨A1, c1, rfl, _, _⟩ := hg.1.form
  obtain ⟨A2, c2, rfl, _, _⟩ := hg.2.form
  obtain ⟨A3, c3, rfl, _, _⟩ := hu.form
  obtain ⟨W0, hW0⟩ : ∃ W0, W0 = ((w.alloc (.cells #[.slice A1 g.nodes.length c1, .slice A2 g.ties.length c2] 25)).alloc (.cells #[.int .i64 n.id, .string n.kind, .slice A3 n.props.length c3] 29)).alloc (.cells #[.int .i64 0, .string ⟨#[]⟩, .slice none 0 0] 29) := ⟨_, rfl⟩
  have hb0 : Below w.heap.size w W0 := by rw [hW0]; exact (((Below.refl _ _).alloc (Nat.le_refl _) _).alloc (by simp) _).alloc (by simp; omega) _
  have g0 : W0.heap[w.heap.size]? = some (.cells #[.slice A1 g.nodes.length c1, .slice A2 g.ties.length c2] 25 (0, 0)) := by
    rw [hW0, Below.heap_alloc _ _ _ (by simp; omega), Below.heap_alloc _ _ _ (by simp)]; exact heap_alloc_new _ _
  have g1 : W0.heap[w.heap.size + 1]? = some (.cells #[.int .i64 n.id, .string n.kind, .slice A3 n.props.length c3] 29 (0, 0)) := by
    have := heap_alloc_new (w.alloc (.cells #[.slice A1 g.nodes.length c1, .slice A2 g.ties.length c2] 25)) (.cells #[.int .i64 n.id, .string n.kind, .slice A3 n.props.length c3] 29); rw [hW0, Below.heap_alloc _ _ _ (by simp)]; simpa using this
  have g2 : W0.heap[w.heap.size + 1 + 1]? = some (.cells #[.int .i64 0, .string ⟨#[]⟩, .slice none 0 0] 29 (0, 0)) := by
    have := heap_alloc_new ((w.alloc (.cells #[.slice A1 g.nodes.length c1, .slice A2 g.ties.length c2] 25)).alloc (.cells #[.int .i64 n.id, .string n.kind, .slice A3 n.props.length c3] 29)) (.cells #[.int .i64 0, .string ⟨#[]⟩, .slice none 0 0] 29); rw [hW0]; simpa using this
  have hW0' := hW0.symm
  have hw0 := hb0.size
  have G0 := Lib.hid g0
  have G1 := Lib.hid g1
  have G2 := Lib.hid g2
  have x0 := block_cell g0 0
  have x1 := block_cell g0 1
  have y0 := block_cell g1 0
  have HGW := Lib.hid hg
  have hx := find_any g _ _ W0 (hg.below hb0) n.id hch (by omega)
  obtain ⟨k1, k2⟩ := keptN_parts g n
  have HK1 := Lib.hid k1
  have HK2 := Lib.hid k2
  have HD : Hid (keptD g n = match keptN g n with | some m => m | none => ⟨0, .empty, []⟩) := rfl
  have HFL : Hid (fhas g.nodes n.id = true → fpos g.nodes n.id < g.nodes.length) := fhas_lt
  unfold KeptRet
  generalize keptD g n = kd at *
  generalize keptN g n = kn at *
  generalize fhas g.nodes n.id = f at *
  generalize fpos g.nodes n.id = p at *
  clear hg hu g0 g1 g2 hW0 hch k1 k2
  go_enter Tryz.func114, Tryz.ntmps114
  go_wp2_with fail
  clear hW0'
  refine hx.mono ?_
  clear hx x0 x1 y0
  rintro e w1 ⟨rfl, hb1⟩
  have hB1 := hb0.trans (hb1.mono hw0)
  have m0 := (hb1.block _ (Array.getElem?_eq_some_iff.1 G0.out).1).trans G0.out
  have m1 := (hb1.block _ (Array.getElem?_eq_some_iff.1 G1.out).1).trans G1.out
  have m2 := (hb1.block _ (Array.getElem?_eq_some_iff.1 G2.out).1).trans G2.out
  have M2 := Lib.hid m2
  have x0 := block_cell m0 0
  have y1 := block_cell m1 1
  clear G0 G1 G2 m0 m1
  have a0 := block_cell m2 0
  have a1 := block_cell m2 1
  have a2 := block_cell m2 2
  have f0 := block_free m2 0
  have f1 := block_free m2 1
  have f2 := block_free m2 2
  clear m2
  cases f with
  | false =>
    have hkn := HK1.out rfl
    have HE : Hid (kd = ⟨0, ⟨#[]⟩, []⟩ ∧ kn.isSome = false) := by
      have hd := HD.out
      rw [hkn] at hd
      exact ⟨hd, by rw [hkn]; rfl⟩
    clear hkn HD HK1 HK2 HFL
    go_wp2_with fail
    go_quiet (fail)
    go_wp2_with fail
    have m2' : (w1.drewN nq).heap[w.heap.size + 1 + 1]? = some (.cells #[.int .i64 0, .string ⟨#[]⟩, .slice none 0 0] 29 (0, 0)) := M2.out
    have s3 := setCell_block (setCell_block (setCell_block m2' 0 (.int .i64 0)) 1 (.string ⟨#[]⟩)) 2 (.slice none 0 0)
    have hbX := (((below_drewN hB1 nq).setCell (p := ⟨w.heap.size + 1 + 1, 0, none⟩) (by show w.heap.size ≤ w.heap.size + 1 + 1; omega) (.int .i64 0)).setCell (p := ⟨w.heap.size + 1 + 1, 1, none⟩) (by show w.heap.size ≤ w.heap.size + 1 + 1; omega) (.string ⟨#[]⟩)).setCell (p := ⟨w.heap.size + 1 + 1, 2, none⟩) (by show w.heap.size ≤ w.heap.size + 1 + 1; omega) (.slice none 0 0)
    have k2 := block_cell s3 0
    have k3 := block_cell s3 1
    have k4 := block_cell s3 2
    refine bodyPost_ret (v := .tuple #[.agg #[.int .i64 0, .string ⟨#[]⟩, .slice none 0 0], .bool false]) (by simp [results, Tryz.results114, go_sem, k2, k3, k4]) rfl ?_
    · exact ⟨_, by rw [HE.out.1, HE.out.2], by rw [HE.out.1]; exact Sl.nil 0 (Nat.zero_le _) none, hbX⟩
  | true =>
    have hp := HFL.out rfl
    have hp' : (p : Int) < (g.nodes.length : Int) := by omega
    obtain ⟨m, hm⟩ : ∃ d, g.nodes[p]? = some d := ⟨_, List.getElem?_eq_getElem hp⟩
    have hkn := HK2.out m hm rfl
    obtain ⟨gb, oo, rfl, um, _, _, hum, q0, q1, q2⟩ := nod_at HGW.out.1 hm
    have q0 := cell_below hB1 q0
    have q1 := cell_below hB1 q1
    have q2 := cell_below hB1 q2
    obtain ⟨Am, cm, rfl, _, _⟩ := hum.form
    have hkb : (m.kind.toList == n.kind.toList) = decide (m.kind = n.kind) := bytes_beq _ _
    have HUM := Lib.hid hum
    clear hm hum HFL HK1 HK2
    by_cases hq : m.kind = n.kind
    · have HE : Hid (kd = m ∧ kn.isSome = true) := by
        have hd := HD.out
        rw [hkn, if_pos hq] at hd
        exact ⟨hd, by rw [hkn, if_pos hq]; rfl⟩
      rw [decide_eq_true hq] at hkb
      have hkc : m.kind.toList = n.kind.toList := by rw [hq]
      clear hkn HD hq
      go_wp2_with fail
      go_quiet (fail)
      go_wp2_with fail
      have m2' : (w1.drewN nq).heap[w.heap.size + 1 + 1]? = some (.cells #[.int .i64 0, .string ⟨#[]⟩, .slice none 0 0] 29 (0, 0)) := M2.out
      have s3 := setCell_block (setCell_block (setCell_block m2' 0 (.int .i64 m.id)) 1 (.string m.kind)) 2 (.slice Am m.props.length cm)
      have hbX := (((below_drewN hB1 nq).setCell (p := ⟨w.heap.size + 1 + 1, 0, none⟩) (by show w.heap.size ≤ w.heap.size + 1 + 1; omega) (.int .i64 m.id)).setCell (p := ⟨w.heap.size + 1 + 1, 1, none⟩) (by show w.heap.size ≤ w.heap.size + 1 + 1; omega) (.string m.kind)).setCell (p := ⟨w.heap.size + 1 + 1, 2, none⟩) (by show w.heap.size ≤ w.heap.size + 1 + 1; omega) (.slice Am m.props.length cm)
      have k2 := block_cell s3 0
      have k3 := block_cell s3 1
      have k4 := block_cell s3 2
      refine bodyPost_ret (v := .tuple #[.agg #[.int .i64 m.id, .string m.kind, .slice Am m.props.length cm], .bool true]) (by simp [results, Tryz.results114, go_sem, k2, k3, k4]) rfl ?_
      · exact ⟨_, by rw [HE.out.1, HE.out.2], by rw [HE.out.1]; exact HUM.out.below hbX, hbX⟩
    · have HE : Hid (kd = ⟨0, ⟨#[]⟩, []⟩ ∧ kn.isSome = false) := by
        have hd := HD.out
        rw [hkn, if_neg hq] at hd
        exact ⟨hd, by rw [hkn, if_neg hq]; rfl⟩
      rw [decide_eq_false hq] at hkb
      have hkc : ¬ m.kind.toList = n.kind.toList := by rw [bytes_eq]; exact hq
      clear hkn HD hq
      go_wp2_with fail
      go_quiet (fail)
      go_wp2_with fail
      have m2' : (w1.drewN nq).heap[w.heap.size + 1 + 1]? = some (.cells #[.int .i64 0, .string ⟨#[]⟩, .slice none 0 0] 29 (0, 0)) := M2.out
      have s3 := setCell_block (setCell_block (setCell_block m2' 0 (.int .i64 0)) 1 (.string ⟨#[]⟩)) 2 (.slice none 0 0)
      have hbX := (((below_drewN hB1 nq).setCell (p := ⟨w.heap.size + 1 + 1, 0, none⟩) (by show w.heap.size ≤ w.heap.size + 1 + 1; omega) (.int .i64 0)).setCell (p := ⟨w.heap.size + 1 + 1, 1, none⟩) (by show w.heap.size ≤ w.heap.size + 1 + 1; omega) (.string ⟨#[]⟩)).setCell (p := ⟨w.heap.size + 1 + 1, 2, none⟩) (by show w.heap.size ≤ w.heap.size + 1 + 1; omega) (.slice none 0 0)
      have k2 := block_cell s3 0
      have k3 := block_cell s3 1
      have k4 := block_cell s3 2
      refine bodyPost_ret (v := .tuple #[.agg #[.int .i64 0, .string ⟨#[]⟩, .slice none 0 0], .bool false]) (by simp [results, Tryz.results114, go_sem, k2, k3, k4]) rfl ?_
      · exact ⟨_, by rw [HE.out.1, HE.out.2], by rw [HE.out.1]; exact Sl.nil 0 (Nat.zero_le _) none, hbX⟩
end Go.Proofs.YtngbbefpphinjaaGreatDoor

/- Contracts of the reference: kinref1.tied, kept, lost. Conditions: the graphs' nodes are in order. -/
namespace Go.Proofs.YtngbbefpphinjaaGreatDoor
open Go Go.RowKit



def keptI (g : Grf) (n : Nod) : Int := if (keptN g n).isSome = true then (fpos g.nodes n.id : Int) else -1
theorem keptI_neg (g : Grf) (n : Nod) : decide (keptI g n < 0) = (keptN g n).isNone := by
  unfold keptI
  cases keptN g n with
  | none => rfl
  | some m => simp
theorem keptI_miss {g : Grf} {n : Nod} (hc : chain nodLt g.nodes = true) (h : rfI g.nodes n.id < 0) : keptI g n = -1 := by
  rw [idx_nod hc] at h
  have hf : fhas g.nodes n.id = false := by
    cases hq : fhas g.nodes n.id with
    | false => rfl
    | true => rw [hq] at h; simp at h; omega
  unfold keptI
  rw [(keptN_parts g n).1 hf]; rfl
theorem keptI_at {g : Grf} {n m : Nod} {i : Nat} (hc : chain nodLt g.nodes = true) (h : rfI g.nodes n.id = i) (hm : g.nodes[i]? = some m) : keptI g n = if m.kind = n.kind then (i : Int) else -1 := by
  rw [idx_nod hc] at h
  have hf : fhas g.nodes n.id = true := by
    cases hq : fhas g.nodes n.id with
    | true => rfl
    | false => rw [hq] at h; simp at h
  rw [hf, if_pos rfl] at h
  have hp : fpos g.nodes n.id = i := by omega
  unfold keptI
  rw [(keptN_parts g n).2 m (by rw [hp]; exact hm) hf, hp]
  by_cases hk : m.kind = n.kind
  · rw [if_pos hk, if_pos hk]; rfl
  · rw [if_neg hk, if_neg hk]; rfl
theorem keptI_some {g : Grf} {n m : Nod} (h : keptN g n = some m) : keptI g n = fpos g.nodes n.id ∧ g.nodes[fpos g.nodes n.id]? = some m := by
  refine ⟨by unfold keptI; rw [h]; rfl, ?_⟩
  cases hf : fhas g.nodes n.id with
  | false => rw [(keptN_parts g n).1 hf] at h; cases h
  | true =>
    cases hq : g.nodes[fpos g.nodes n.id]? with
    | none => unfold keptN at h; rw [hq] at h; simp at h
    | some x =>
      rw [(keptN_parts g n).2 x hq hf] at h
      by_cases hk : x.kind = n.kind
      · rw [if_pos hk] at h; exact h
      · rw [if_neg hk] at h; cases h
set_option maxHeartbeats 1000000 in
theorem tied_any (g : Grf) (t : Tie) (vn vt : Value) (w : World) (hG : GrfR w vn vt g) :
    Calls Tryz.prog 53 #[.agg #[vn, vt], .agg #[.string t.bond, .int .i64 t.src, .int .i64 t.dst]] w fun e w' => e = .returned (.bool (decide (t ∈ g.ties))) ∧ Below w.heap.size w w' := by
  obtain ⟨A1, c1, rfl, _, _⟩ := hG.1.form
  obtain ⟨A2, c2, rfl, hlc, hcm⟩ := hG.2.form
  unfold maxLen at hcm
  obtain ⟨W0, hW0⟩ : ∃ W0, W0 = (w.alloc (.cells #[.slice A1 g.nodes.length c1, .slice A2 g.ties.length c2] 25)).alloc (.cells #[.string t.bond, .int .i64 t.src, .int .i64 t.dst] 35) := ⟨_, rfl⟩
  have hb0 : Below w.heap.size w W0 := by rw [hW0]; exact ((Below.refl _ _).alloc (Nat.le_refl _) _).alloc (by simp) _
  have g0 : W0.heap[w.heap.size]? = some (.cells #[.slice A1 g.nodes.length c1, .slice A2 g.ties.length c2] 25 (0, 0)) := by
    rw [hW0, Below.heap_alloc _ _ _ (by simp)]; exact heap_alloc_new _ _
  have g1 : W0.heap[w.heap.size + 1]? = some (.cells #[.string t.bond, .int .i64 t.src, .int .i64 t.dst] 35 (0, 0)) := by
    have := heap_alloc_new (w.alloc (.cells #[.slice A1 g.nodes.length c1, .slice A2 g.ties.length c2] 25)) (.cells #[.string t.bond, .int .i64 t.src, .int .i64 t.dst] 35); rw [hW0]; simpa using this
  have hW0' := hW0.symm
  have X1 := Lib.hid (block_cell g0 1)
  have z0 := block_cell g1 0
  have z1 := block_cell g1 1
  have z2 := block_cell g1 2
  have HV := Lib.hid (hG.below hb0).2
  generalize g.ties = l at *
  have HZ := Lib.hid (And.intro z0 (And.intro z1 z2))
  clear hG g0 g1 hW0 z0 z1 z2
  go_enter Tryz.func53, Tryz.ntmps53
  go_wp2_with fail
  clear hW0'
  go_loopw [5] (fun i wr => ∃ k : Nat, k ≤ l.length ∧ i = .int .i64 k ∧ Below W0.heap.size W0 wr ∧ Hid (∀ j y, j < k → l[j]? = some y → decide (y = t) = false)) (fun i _ => l.length - (intOf i).toNat)
  case atStart => exact ⟨0, Nat.zero_le _, rfl, Below.refl _ _, fun j x hj => absurd hj (Nat.not_lt_zero _)⟩
  case round =>
    obtain ⟨k, hk, rfl, hb, HA⟩ := hrel
    have x1 := cell_below hb X1.out
    have z0 := cell_below hb HZ.out.1
    have z1 := cell_below hb HZ.out.2.1
    have z2 := cell_below hb HZ.out.2.2
    have hbX := hb0.trans (hb.mono hb0.size)
    by_cases hlt : k < l.length
    · obtain ⟨d, hd⟩ : ∃ d, l[k]? = some d := ⟨_, List.getElem?_eq_getElem hlt⟩
      have hlt' : (k : Int) < (l.length : Int) := by omega
      obtain ⟨b, o, rfl, _, y0, y1, y2⟩ := tie_at (HV.out.below hb) hd
      have HD : Hid (l[k]? = some d) := hd
      have heq := tie_eql d t
      have hgd := tie_guard
      have hMH : Hid (decide (d = t) = true → decide (t ∈ l) = true) := fun h => by
        rw [decide_eq_true_eq, ← of_decide_eq_true h]; exact List.mem_of_getElem? HD.out
      have hMS : Hid (decide (d = t) = false → ∀ j y, j < k + 1 → l[j]? = some y → decide (y = t) = false) := fun h => miss_step (p := fun y => decide (y = t)) HA.out HD.out h
      clear hd
      generalize decide (d = t) = q at *
      cases q with
      | true =>
        have HE := Lib.hid (hMH.out rfl)
        go_wp2_with fail
        go_quiet (fail)
        go_wp2_with fail
        go_ret
        exact ⟨ret_bool HE.out.symm, below_drewN hbX _⟩
      | false =>
        have HS := Lib.hid (hMS.out rfl)
        go_wp2_with fail
        go_quiet (fail)
        go_wp2_with fail
        go_roundw
        case rel => exact ⟨k + 1, by omega, by go_num, below_drewN hb _, HS⟩
        case measure => simp [intOf]; omega
    · have hkl : k = l.length := by omega
      subst hkl
      have HE : Hid (decide (t ∈ l) = false) := decide_eq_false fun hm => by
        obtain ⟨j, hj⟩ := List.mem_iff_getElem?.1 hm
        have := HA.out j t (List.getElem?_eq_some_iff.1 hj).1 hj
        simp at this
      go_wp2_with fail
      go_ret
      exact ⟨ret_bool HE.out.symm, hbX⟩
set_option maxRecDepth 100000 in
set_option maxHeartbeats 4000000 in
theorem rkept_any (g : Grf) (n : Nod) (vn vt u : Value) (w : World) (hg : GrfR w vn vt g) (hu : Sl prpL w u n.props) (hch : chain nodLt g.nodes = true) :
    Calls Tryz.prog 54 #[.agg #[vn, vt], .agg #[.int .i64 n.id, .string n.kind, u]] w fun e w' => e = .returned (.int .i64 (keptI g n)) ∧ Below w.heap.size w w' := by
  obtain ⟨A1, c1, rfl, _, _⟩ := hg.1.form
  obtain ⟨A2, c2, rfl, _, _⟩ := hg.2.form
  obtain ⟨A3, c3, rfl, _, _⟩ := hu.form
  obtain ⟨W0, hW0⟩ : ∃ W0, W0 = (w.alloc (.cells #[.slice A1 g.nodes.length c1, .slice A2 g.ties.length c2] 25)).alloc (.cells #[.int .i64 n.id, .string n.kind, .slice A3 n.props.length c3] 29) := ⟨_, rfl⟩
  have hb0 : Below w.heap.size w W0 := by rw [hW0]; exact ((Below.refl _ _).alloc (Nat.le_refl _) _).alloc (by simp) _
  have g0 : W0.heap[w.heap.size]? = some (.cells #[.slice A1 g.nodes.length c1, .slice A2 g.ties.length c2] 25 (0, 0)) := by
    rw [hW0, Below.heap_alloc _ _ _ (by simp)]; exact heap_alloc_new _ _
  have g1 : W0.heap[w.heap.size + 1]? = some (.cells #[.int .i64 n.id, .string n.kind, .slice A3 n.props.length c3] 29 (0, 0)) := by
    have := heap_alloc_new (w.alloc (.cells #[.slice A1 g.nodes.length c1, .slice A2 g.ties.length c2] 25)) (.cells #[.int .i64 n.id, .string n.kind, .slice A3 n.props.length c3] 29); rw [hW0]; simpa using this
  have hW0' := hW0.symm
  have hw0 := hb0.size
  have X0 := Lib.hid (block_cell g0 0)
  have Y1 := Lib.hid (block_cell g1 1)
  have x0 := block_cell g0 0
  have x1 := block_cell g0 1
  have y0 := block_cell g1 0
  have HG := Lib.hid (hg.below hb0)
  have hx := rgfind_any g _ _ n.id W0 (hg.below hb0)
  have HMI : Hid (rfI g.nodes n.id < 0 → keptI g n = -1) := keptI_miss hch
  have HAT : Hid (∀ (i : Nat) m, rfI g.nodes n.id = i → g.nodes[i]? = some m → keptI g n = if m.kind = n.kind then (i : Int) else -1) := fun i m h1 h2 => keptI_at hch h1 h2
  have HGE : Hid (0 ≤ rfI g.nodes n.id → ∃ (i : Nat) (m : Nod), rfI g.nodes n.id = i ∧ g.nodes[i]? = some m) := fun h => by
    obtain ⟨i, m, h1, h2, _⟩ := idxI_nonneg h
    exact ⟨i, m, h1, h2⟩
  generalize rfI g.nodes n.id = ri at *
  generalize keptI g n = ki at *
  clear hg hu g0 g1 hW0 hch
  go_enter Tryz.func54, Tryz.ntmps54
  go_wp2_with fail
  clear hW0'
  refine hx.mono ?_
  clear hx x0 x1 y0
  rintro e w2 ⟨rfl, hb2⟩
  have x0 := cell_below hb2 X0.out
  have y1 := cell_below hb2 Y1.out
  have hB2 := hb0.trans (hb2.mono hw0)
  by_cases hri : ri < 0
  · have HE := Lib.hid (HMI.out hri)
    have hrd : ¬ ((0 : Int) ≤ ri) := by omega
    have hrd2 : decide ((0 : Int) ≤ ri) = false := decide_eq_false hrd
    clear hri HMI HAT HGE
    go_wp2_with fail
    go_quiet (fail)
    go_wp2_with fail
    go_ret
    exact ⟨by rw [HE.out]; rfl, below_drewN hB2 _⟩
  obtain ⟨i, m, hi, hn⟩ := HGE.out (by omega)
  have HE := Lib.hid (HAT.out i m hi hn)
  subst hi
  have hil := (List.getElem?_eq_some_iff.1 hn).1
  have hil' : (i : Int) < (g.nodes.length : Int) := by omega
  have hi0 : (0 : Int) ≤ (i : Int) := by omega
  have hid0 : decide ((0 : Int) ≤ (i : Int)) = true := decide_eq_true hi0
  obtain ⟨b, o, rfl, um, _, _, _, _, z1, _⟩ := nod_at (HG.out.below hb2).1 hn
  have hkb : (m.kind.toList == n.kind.toList) = decide (m.kind = n.kind) := bytes_beq _ _
  clear hn HMI HAT HGE hri
  by_cases hq : m.kind = n.kind
  · have HE2 : Hid (ki = i) := by unfold Hid; rw [HE.out, if_pos hq]
    rw [decide_eq_true hq] at hkb
    have hkc : m.kind.toList = n.kind.toList := by rw [hq]
    clear HE hq
    go_wp2_with fail
    go_quiet (fail)
    go_wp2_with fail
    go_ret
    exact ⟨by rw [HE2.out]; rfl, below_drewN hB2 _⟩
  · have HE2 : Hid (ki = -1) := by unfold Hid; rw [HE.out, if_neg hq]
    rw [decide_eq_false hq] at hkb
    have hkc : ¬ m.kind.toList = n.kind.toList := by rw [bytes_eq]; exact hq
    clear HE hq
    go_wp2_with fail
    go_quiet (fail)
    go_wp2_with fail
    go_ret
    exact ⟨by rw [HE2.out]; rfl, below_drewN hB2 _⟩
theorem lost_neg {a b : Grf} (ha : grfE a = 0) {id : Int} (h : rfI a.nodes id < 0) : decide (id ∈ lostIds a b) = false := by
  refine decide_eq_false fun hm => ?_
  unfold lostIds at hm
  obtain ⟨n, hn, rfl⟩ := List.mem_map.1 hm
  have hn := (List.mem_filter.1 hn).1
  rw [idx_nod (grf_ok ha).2.2.1, (fhas_mem ha n.id).2 ⟨n, hn, rfl⟩, if_pos rfl] at h
  omega
theorem lost_at {a b : Grf} (ha : grfE a = 0) {id : Int} {i : Nat} {n : Nod} (h : rfI a.nodes id = i) (hn : a.nodes[i]? = some n) : decide (id ∈ lostIds a b) = decide (keptI b n < 0) := by
  obtain ⟨j, m, h1, h2, h3⟩ := idxI_nonneg (p := fun m : Nod => decide (m.id = id)) (l := a.nodes) (show (0 : Int) ≤ rfI a.nodes id by omega)
  have hj : j = i := by unfold rfI at h; omega
  subst hj
  rw [hn] at h2
  obtain rfl := Option.some.inj h2
  have hid : n.id = id := of_decide_eq_true h3.1
  rw [keptI_neg]
  have hmem := List.mem_of_getElem? hn
  have hiff : id ∈ lostIds a b ↔ (keptN b n).isNone = true := by
    unfold lostIds
    constructor
    · intro hm
      obtain ⟨m, hm, e⟩ := List.mem_map.1 hm
      obtain ⟨hm1, hm2⟩ := List.mem_filter.1 hm
      have := id_uniq ha hmem hm1 (by rw [e, hid])
      rw [this]; exact hm2
    · intro hk
      exact List.mem_map.2 ⟨n, List.mem_filter.2 ⟨hmem, hk⟩, hid⟩
  cases hq : (keptN b n).isNone with
  | true => exact decide_eq_true (hiff.2 hq)
  | false => exact decide_eq_false fun hm => by rw [hiff.1 hm] at hq; cases hq
set_option maxRecDepth 100000 in
set_option maxHeartbeats 8000000 in
theorem rlost_any (a b : Grf) (id : Int) (va ta vb tb : Value) (w : World) (h1 : GrfR w va ta a) (h2 : GrfR w vb tb b) (ha : grfE a = 0) (hb : grfE b = 0) :
    Calls Tryz.prog 56 #[.agg #[va, ta], .agg #[vb, tb], .int .i64 id] w fun e w' => e = .returned (.bool (decide (id ∈ lostIds a b))) ∧ Below w.heap.size w w' := by
  obtain ⟨A1, c1, rfl, _, hm1⟩ := h1.1.form
  obtain ⟨A2, c2, rfl, _, hm2⟩ := h1.2.form
  obtain ⟨A3, c3, rfl, _, hm3⟩ := h2.1.form
  obtain ⟨A4, c4, rfl, _, hm4⟩ := h2.2.form
  unfold maxLen at hm1 hm2 hm3 hm4
  obtain ⟨W0, hW0⟩ : ∃ W0, W0 = (w.alloc (.cells #[.slice A1 a.nodes.length c1, .slice A2 a.ties.length c2] 25)).alloc (.cells #[.slice A3 b.nodes.length c3, .slice A4 b.ties.length c4] 25) := ⟨_, rfl⟩
  have hb0 : Below w.heap.size w W0 := by rw [hW0]; exact ((Below.refl _ _).alloc (Nat.le_refl _) _).alloc (by simp) _
  have g0 : W0.heap[w.heap.size]? = some (.cells #[.slice A1 a.nodes.length c1, .slice A2 a.ties.length c2] 25 (0, 0)) := by
    rw [hW0, Below.heap_alloc _ _ _ (by simp)]; exact heap_alloc_new _ _
  have g1 : W0.heap[w.heap.size + 1]? = some (.cells #[.slice A3 b.nodes.length c3, .slice A4 b.ties.length c4] 25 (0, 0)) := by
    have := heap_alloc_new (w.alloc (.cells #[.slice A1 a.nodes.length c1, .slice A2 a.ties.length c2] 25)) (.cells #[.slice A3 b.nodes.length c3, .slice A4 b.ties.length c4] 25); rw [hW0]; simpa using this
  have hW0' := hW0.symm
  have hw0 := hb0.size
  have X0 := Lib.hid (block_cell g0 0)
  have X1 := Lib.hid (block_cell g0 1)
  have Y0 := Lib.hid (block_cell g1 0)
  have Y1 := Lib.hid (block_cell g1 1)
  have x0 := X0.out
  have x1 := X1.out
  have y0 := Y0.out
  have y1 := Y1.out
  have HG := Lib.hid (h1.below hb0)
  have HH := Lib.hid (h2.below hb0)
  have hx := rgfind_any a _ _ id W0 (h1.below hb0)
  have HNEG : Hid (rfI a.nodes id < 0 → decide (id ∈ lostIds a b) = false) := lost_neg ha
  have HAT : Hid (∀ (i : Nat) n, rfI a.nodes id = i → a.nodes[i]? = some n → decide (id ∈ lostIds a b) = decide (keptI b n < 0)) := fun i n h1 h2 => lost_at ha h1 h2
  have HGE : Hid (0 ≤ rfI a.nodes id → ∃ (i : Nat) (n : Nod), rfI a.nodes id = i ∧ a.nodes[i]? = some n) := fun h => by
    obtain ⟨i, n, h1, h2, _⟩ := idxI_nonneg h
    exact ⟨i, n, h1, h2⟩
  have hch := (grf_ok hb).2.2.1
  generalize rfI a.nodes id = ri at *
  generalize decide (id ∈ lostIds a b) = eb at *
  clear h1 h2 g0 g1 hW0 ha hb
  go_enter Tryz.func56, Tryz.ntmps56
  go_wp2_with fail
  clear hW0'
  refine hx.mono ?_
  clear hx x0 x1 y0 y1
  rintro e w2 ⟨rfl, hb2⟩
  have x0 := cell_below hb2 X0.out
  have y0 := cell_below hb2 Y0.out
  have y1 := cell_below hb2 Y1.out
  have hB2 := hb0.trans (hb2.mono hw0)
  by_cases hri : ri < 0
  · have HE := Lib.hid (HNEG.out hri)
    have hrd : ¬ ((0 : Int) ≤ ri) := by omega
    have hrd2 : decide ((0 : Int) ≤ ri) = false := decide_eq_false hrd
    clear hri HNEG HAT HGE
    go_wp2_with fail
    go_quiet (fail)
    go_wp2_with fail
    go_ret
    exact ⟨by rw [HE.out]; rfl, below_drewN hB2 _⟩
  obtain ⟨i, n, hi, hn⟩ := HGE.out (by omega)
  have HE := Lib.hid (HAT.out i n hi hn)
  subst hi
  have hil := (List.getElem?_eq_some_iff.1 hn).1
  have hil' : (i : Int) < (a.nodes.length : Int) := by omega
  have hi0 : (0 : Int) ≤ (i : Int) := by omega
  have hid0 : decide ((0 : Int) ≤ (i : Int)) = true := decide_eq_true hi0
  obtain ⟨bk, o, rfl, u, _, _, hu, z0, z1, z2⟩ := nod_at (HG.out.below hb2).1 hn
  obtain ⟨A9, c9, rfl, _, _⟩ := hu.form
  have HK : Hid (∀ W, Below w2.heap.size w2 W → Calls Tryz.prog 54 #[.agg #[.slice A3 b.nodes.length c3, .slice A4 b.ties.length c4], .agg #[.int .i64 n.id, .string n.kind, .slice A9 n.props.length c9]] W fun e w' => e = .returned (.int .i64 (keptI b n)) ∧ Below W.heap.size W w') := fun W h =>
    rkept_any b n _ _ _ W (HH.out.below (hb2.trans (h.mono hb2.size))) (hu.below h) hch
  generalize keptI b n = ki at *
  clear hn HNEG HAT HGE hri hu
  go_wp2_with fail
  refine wp_mid_g 9 _ rfl rfl (by kernel_rfl) ?_
  simp only [List.take_succ_cons, List.take_zero, List.drop_succ_cons, List.drop_zero]
  repeat (go_big_quiet_step (fail))
  refine wpQuiet_nil ?_
  refine ⟨by simp [Region.wanted, yielded, go_sem], ?_⟩
  intro _ hw'
  obtain ⟨nq, hw''⟩ := hw'
  subst hw''
  intro K hK
  have hk1 := HK.out (w2.drewN nq) (below_drewN (Below.refl _ _) nq)
  go_wp2_with fail
  refine hk1.mono ?_
  clear hk1
  rintro e w3 ⟨rfl, hb3⟩
  have hb23 := (below_drewN (Below.refl w2.heap.size w2) nq).trans hb3
  by_cases hki : ki < 0
  · have HE2 : Hid (eb = true) := by unfold Hid; rw [HE.out, decide_eq_true hki]
    have hkd : decide (ki < 0) = true := decide_eq_true hki
    refine hK _ _ ?_
    repeat (go_big_quiet_step (fail))
    refine wpQuiet_nil ?_
    intro _ hw'
    obtain ⟨nq2, hw''⟩ := hw'
    subst hw''
    clear hK
    have hbX := below_drewN hb23 nq2
    generalize w3.drewN nq2 = W3 at *
    go_wp2_with fail
    go_ret
    exact ⟨ret_bool HE2.out.symm, hB2.trans (hbX.mono hB2.size)⟩
  · have HE2 : Hid (eb = false) := by unfold Hid; rw [HE.out, decide_eq_false hki]
    have hkd : decide (ki < 0) = false := decide_eq_false hki
    refine hK _ _ ?_
    repeat (go_big_quiet_step (fail))
    refine wpQuiet_nil ?_
    intro _ hw'
    obtain ⟨nq2, hw''⟩ := hw'
    subst hw''
    clear hK
    have hbX := below_drewN hb23 nq2
    generalize w3.drewN nq2 = W3 at *
    go_wp2_with fail
    go_ret
    exact ⟨ret_bool HE2.out.symm, hB2.trans (hbX.mono hB2.size)⟩
end Go.Proofs.YtngbbefpphinjaaGreatDoor

/- Contract: delta.props: what makes of one node's record another one's, op by op. Conditions: both are right. -/
namespace Go.Proofs.YtngbbefpphinjaaGreatDoor
open Go Go.RowKit



def unsL (a b : Nod) (k : Nat) : List Opr := ((a.props.take k).filter fun p => !rhas b.props p.name).map (fun p => unsetOpr a.id p.name)
def setL (a b : Nod) (k : Nat) : List Opr := ((b.props.take k).filter fun p => decide (p ∉ a.props)).map (setOpr a.id)
theorem ofilt_snoc {D E : Type} (f : D → E) (p : D → Bool) {l : List D} {k : Nat} {d : D} (h : l[k]? = some d) : ((l.take (k + 1)).filter p).map f = ((l.take k).filter p).map f ++ (if p d = true then [f d] else []) := by
  rw [List.take_add_one, h, List.filter_append, List.map_append]
  congr 1
  by_cases hp : p d = true
  · simp [hp]
  · simp [hp]
theorem ofilt_len {D E : Type} (f : D → E) (p : D → Bool) (l : List D) (k : Nat) : (((l.take k).filter p).map f).length ≤ k := by
  rw [List.length_map]
  exact Nat.le_trans (List.length_filter_le _ _) (by rw [List.length_take]; omega)
set_option maxRecDepth 100000 in
set_option maxHeartbeats 16000000 in
theorem props_any (a b : Nod) (va vb : Value) (w : World) (ha : Sl prpL w va a.props) (hb : Sl prpL w vb b.props) (hia : I64 a.id) (hra : recE a.props = 0) (hrb : recE b.props = 0) :
    Calls Tryz.prog 115 #[.agg #[.int .i64 a.id, .string a.kind, va], .agg #[.int .i64 b.id, .string b.kind, vb]] w fun e w' => ∃ v xs, e = .returned v ∧ OpsW w.heap.size w' v (propsL a b) xs ∧ Below w.heap.size w w' := by
  obtain ⟨i0, ei, ez, ez1, ez2⟩ := info_parts opr_info
  obtain ⟨A1, c1, rfl, _, _⟩ := ha.form
  obtain ⟨A2, c2, rfl, _, _⟩ := hb.form
  obtain ⟨W0, hW0⟩ : ∃ W0, W0 = (w.alloc (.cells #[.int .i64 a.id, .string a.kind, .slice A1 a.props.length c1] 29)).alloc (.cells #[.int .i64 b.id, .string b.kind, .slice A2 b.props.length c2] 29) := ⟨_, rfl⟩
  have hb0 : Below w.heap.size w W0 := by rw [hW0]; exact ((Below.refl _ _).alloc (Nat.le_refl _) _).alloc (by simp) _
  have g0 : W0.heap[w.heap.size]? = some (.cells #[.int .i64 a.id, .string a.kind, .slice A1 a.props.length c1] 29 (0, 0)) := by
    rw [hW0, Below.heap_alloc _ _ _ (by simp)]; exact heap_alloc_new _ _
  have g1 : W0.heap[w.heap.size + 1]? = some (.cells #[.int .i64 b.id, .string b.kind, .slice A2 b.props.length c2] 29 (0, 0)) := by
    have := heap_alloc_new (w.alloc (.cells #[.int .i64 a.id, .string a.kind, .slice A1 a.props.length c1] 29)) (.cells #[.int .i64 b.id, .string b.kind, .slice A2 b.props.length c2] 29); rw [hW0]; simpa using this
  have hW0' := hW0.symm
  have hw0 := hb0.size
  have X0 := Lib.hid (block_cell g0 0)
  have X2 := Lib.hid (block_cell g0 2)
  have Y2 := Lib.hid (block_cell g1 2)
  have HA := Lib.hid (ha.below hb0)
  have HB := Lib.hid (hb.below hb0)
  have hla := (rec_ok hra).1
  have hlb := (rec_ok hrb).1
  have HFA : Hid (∀ nm W, Below W0.heap.size W0 W → Calls Tryz.prog 90 #[.slice A1 a.props.length c1, .string nm] W fun e w' => e = .returned (.tuple #[.int .i64 (rpos a.props nm), .bool (rhas a.props nm)]) ∧ Below W.heap.size W w') :=
    fun nm W h => rfind_any a.props nm _ W (HA.out.below h) (rec_ok hra).2.2 (by omega)
  have HFB : Hid (∀ nm W, Below W0.heap.size W0 W → Calls Tryz.prog 90 #[.slice A2 b.props.length c2, .string nm] W fun e w' => e = .returned (.tuple #[.int .i64 (rpos b.props nm), .bool (rhas b.props nm)]) ∧ Below W.heap.size W w') :=
    fun nm W h => rfind_any b.props nm _ W (HB.out.below h) (rec_ok hrb).2.2 (by omega)
  obtain ⟨B, hBe⟩ : ∃ B, B = W0.heap.size := ⟨_, rfl⟩
  clear ha hb hW0 g0 g1
  have x0 := X0.out
  have x2 := X2.out
  have y2 := Y2.out
  go_enter Tryz.func115, Tryz.ntmps115
  go_wp2_with fail
  clear hW0' x0 x2 y2
  go_loopw [4, 16] (fun ov i wr => ∃ (k : Nat) (xs : List Value), k ≤ a.props.length ∧ i = .int .i64 k ∧ Below B W0 wr ∧ Hid (OpsW B wr ov (unsL a b k) xs)) (fun _ i _ => a.props.length - (intOf i).toNat)
  case atStart => exact ⟨0, [], Nat.zero_le _, rfl, Below.refl _ _, OpsW.nil (by omega)⟩
  case round =>
    obtain ⟨k, xs, hk, rfl, hbr, HO⟩ := hrel
    have hbr' : Below W0.heap.size W0 wr := by rw [← hBe]; exact hbr
    have x0 := cell_below hbr' X0.out
    have x2 := cell_below hbr' X2.out
    have y2 := cell_below hbr' Y2.out
    by_cases hlt : k < a.props.length
    · obtain ⟨p, hp⟩ : ∃ d, a.props[k]? = some d := ⟨_, List.getElem?_eq_getElem hlt⟩
      have hlt' : (k : Int) < (a.props.length : Int) := by omega
      obtain ⟨gb, o, rfl, hpok, q0, q1, q2, q3⟩ := prp_at (HA.out.below hbr') hp
      have hbk := heap_alloc_new wr (.cells #[.string p.name, .int .i64 p.v.ty, .int .i64 p.v.n, .string p.v.s] 33)
      have ha1 : Below wr.heap.size wr (wr.alloc (.cells #[.string p.name, .int .i64 p.v.ty, .int .i64 p.v.n, .string p.v.s] 33)) := (Below.refl _ _).alloc (Nat.le_refl _) _
      have HST : Hid (unsL a b (k + 1) = unsL a b k ++ (if (!rhas b.props p.name) = true then [unsetOpr a.id p.name] else [])) := ofilt_snoc _ _ hp
      have hll : (unsL a b k).length ≤ k := ofilt_len _ _ _ _
      have HPK := Lib.hid hpok
      clear hp hpok
      go_upto_region 4 with fail
      generalize wr.alloc (.cells #[.string p.name, .int .i64 p.v.ty, .int .i64 p.v.n, .string p.v.s] 33) = wa at *
      have hWa := hbr'.trans (ha1.mono hbr'.size)
      have y2 := cell_below hWa Y2.out
      have z0 := block_cell hbk 0
      have hx := HFB.out p.name wa hWa
      have HOa := Lib.hid (HO.out.below ha1)
      have hBa := hbr.trans (ha1.mono HO.out.b)
      generalize rpos b.props p.name = rp at *
      generalize rhas b.props p.name = rh at *
      clear q0 q1 q2 q3 x0 x2 hbr hbr' HO ha1
      go_wp2_with fail
      refine hx.mono ?_
      clear hx y2
      rintro e w2 ⟨rfl, hb2⟩
      have hW2 := hWa.trans (hb2.mono hWa.size)
      have x0 := cell_below hW2 X0.out
      have z0 := cell_below hb2 z0
      have HO2 := Lib.hid (HOa.out.below hb2)
      have hB2 := hBa.trans (hb2.mono HOa.out.b)
      clear HOa hb2 hWa hBa
      cases rh with
      | true =>
        have HN : Hid (unsL a b (k + 1) = unsL a b k) := by unfold Hid; rw [HST.out]; simp
        clear HST
        go_wp2_with fail
        go_roundw
        case rel => exact ⟨k + 1, xs, by omega, by go_num, hB2, by rw [HN.out]; exact HO2⟩
        case measure => simp [intOf]; omega
      | false =>
        have HN : Hid (unsL a b (k + 1) = unsL a b k ++ [unsetOpr a.id p.name]) := by unfold Hid; rw [HST.out]; simp
        clear HST
        -- an op more: 30, 38: the slots; unsetOpr a.id p.name: the op; .slice none 0 0: its record's value; w2: the world before it is built; unsL a b k: the row of ops; xs: its cells; HO2: the Hid of OpsW there; $9: the bound on the row
        have hoa := (HO2).out.o.alloc (.cells (oprCells (unsetOpr a.id p.name) (.slice none 0 0)) 37)
        have hra := (HO2).out.r.below (Below.alloc (Below.refl _ _) (Nat.le_refl _) (.cells (oprCells (unsetOpr a.id p.name) (.slice none 0 0)) 37))
        have hsb := (HO2).out.b
        obtain ⟨nl, hnl⟩ : ∃ nl, (unsL a b k).length = nl := ⟨_, rfl⟩
        have hnlb : nl ≤ 100000 := by omega
        rw [hnl] at hoa
        have HNL := Lib.hid hnl
        clear hnl
        obtain ⟨Ap, cp, hvp, hpc, hpm⟩ := hoa.form
        subst hvp
        have HNW : Hid (∀ j u, (oprCells (unsetOpr a.id p.name) (.slice none 0 0)).toList[j]? = some u → ((w2).alloc (.cells (oprCells (unsetOpr a.id p.name) (.slice none 0 0)) 37)).cell? ⟨(w2).heap.size, j, none⟩ = some u) := fun j u hj => by
          rw [World.cell?_alloc_at _ _ _ _ rfl]; simpa using hj
        have HOA := Lib.hid hoa
        have HRA := Lib.hid hra
        have HSB : Hid (B ≤ ((w2).alloc (.cells (oprCells (unsetOpr a.id p.name) (.slice none 0 0)) 37)).heap.size) := Nat.le_trans hsb (Below.alloc (Below.refl _ _) (Nat.le_refl _) (.cells (oprCells (unsetOpr a.id p.name) (.slice none 0 0)) 37)).size
        clear hoa hra
        go_wp2_with (first
          | (at_builtin; refine wpList_append_q _ rfl (.tmp 30) (.tmp 38) _ rfl B 37 i0 opr0 11 136 Tryz.underlying38 ei ez ez1 ez2 rfl (by decide) (.slice Ap nl cp) nl (xs) rfl HOA.out (some ⟨(w2).heap.size, 0, none⟩) 1 1 (oprCells (unsetOpr a.id p.name) (.slice none 0 0)).toList rfl rfl (fun _ => ⟨_, rfl, fun j u hj => by rw [addr_add, Nat.zero_add]; exact HNW.out j u hj⟩) (fun u hu => by simp [oprCells] at hu; rcases hu with rfl | rfl | rfl | rfl | rfl | rfl | rfl | rfl | rfl | rfl | rfl <;> rfl) (by unfold maxLen; omega) (by omega) HSB.out ?_; intro v7 w7 hown7 hg7 hat7))
        -- the op is there: unsetOpr a.id p.name: the op; .slice none 0 0: its record's value; hia (by show (0 : Nat) ≤ 1048576; omega) ⟨HPK.out.1, by show I64 (0 : Int); unfold I64; omega, by show I64 (0 : Int); unfold I64; omega, by show (0 : Nat) ≤ 1048576; omega⟩ ⟨by show (0 : Nat) ≤ 1048576; omega, by show I64 (0 : Int); unfold I64; omega, by show I64 (0 : Int); unfold I64; omega⟩ (OwnP.none _ _): the world before; $4: its record's OwnP (a term over 'B'); $5, $6, $7: the id's, the kind's, the property's, the tie's facts
        have hpush := OpsW.push HNL.out HOA.out HRA.out HSB.out (m := [unsetOpr a.id p.name]) (ys := (oprCells (unsetOpr a.id p.name) (.slice none 0 0)).toList) (OwnOps.one hia (by show (0 : Nat) ≤ 1048576; omega) ⟨HPK.out.1, by show I64 (0 : Int); unfold I64; omega, by show I64 (0 : Int); unfold I64; omega, by show (0 : Nat) ≤ 1048576; omega⟩ ⟨by show (0 : Nat) ≤ 1048576; omega, by show I64 (0 : Int); unfold I64; omega, by show I64 (0 : Int); unfold I64; omega⟩ (OwnP.none _ _)) hown7 hg7
        have hB7 : Below B W0 w7 := (hB2.alloc HO2.out.b _).trans hpush.2.1
        have HO7 : Hid (OpsW B w7 v7 (unsL a b (k + 1)) (xs ++ (oprCells (unsetOpr a.id p.name) (.slice none 0 0)).toList)) := by unfold Hid; rw [HN.out]; exact hpush.1
        clear hpush hg7 hat7 hown7 HOA HRA HNW
        go_roundw
        case rel => exact ⟨k + 1, _, by omega, by go_num, hB7, HO7⟩
        case measure => simp [intOf]; omega
    · obtain rfl : k = a.props.length := by omega
      have HU : Hid (unsL a b a.props.length = (a.props.filter fun p => !rhas b.props p.name).map (fun p => unsetOpr a.id p.name)) := by unfold Hid unsL; rw [List.take_length]
      have hul : (unsL a b a.props.length).length ≤ 8 := Nat.le_trans (ofilt_len _ _ _ _) hla
      have HO1 : Hid (OpsW B wr u4 (unsL a b a.props.length ++ setL a b 0) xs) := by
        have : setL a b 0 = [] := by unfold setL; rw [List.take_zero]; rfl
        unfold Hid; rw [this, List.append_nil]; exact HO.out
      generalize unsL a b a.props.length = ul at *
      clear HO hbr'
      go_wp2_with fail
      clear x0 x2 y2
      go_loopw [4, 44] (fun ov i wr => ∃ (k : Nat) (xs : List Value), k ≤ b.props.length ∧ i = .int .i64 k ∧ Below B W0 wr ∧ Hid (OpsW B wr ov (ul ++ setL a b k) xs)) (fun _ i _ => b.props.length - (intOf i).toNat)
      case atStart => exact ⟨0, xs, Nat.zero_le _, rfl, hbr, HO1⟩
      case round =>
        clear HO1 hbr
        obtain ⟨k, xs, hk, rfl, hbr, HO⟩ := hrel
        have hbr' : Below W0.heap.size W0 wr := by rw [← hBe]; exact hbr
        have x0 := cell_below hbr' X0.out
        have x2 := cell_below hbr' X2.out
        have y2 := cell_below hbr' Y2.out
        by_cases hlt : k < b.props.length
        · obtain ⟨p, hp⟩ : ∃ d, b.props[k]? = some d := ⟨_, List.getElem?_eq_getElem hlt⟩
          have hlt' : (k : Int) < (b.props.length : Int) := by omega
          obtain ⟨gb, o, rfl, hpok, q0, q1, q2, q3⟩ := prp_at (HB.out.below hbr') hp
          have hbk := heap_alloc_new wr (.cells #[.string p.name, .int .i64 p.v.ty, .int .i64 p.v.n, .string p.v.s] 33)
          have ha1 : Below wr.heap.size wr (wr.alloc (.cells #[.string p.name, .int .i64 p.v.ty, .int .i64 p.v.n, .string p.v.s] 33)) := (Below.refl _ _).alloc (Nat.le_refl _) _
          have HST : Hid (setL a b (k + 1) = setL a b k ++ (if decide (p ∉ a.props) = true then [setOpr a.id p] else [])) := ofilt_snoc _ _ hp
          have hll : (setL a b k).length ≤ k := ofilt_len _ _ _ _
          have hll2 : (ul ++ setL a b k).length ≤ 16 := by rw [List.length_append]; omega
          have HPK := Lib.hid hpok
          have HM0 : Hid (rhas a.props p.name = false → decide (p ∉ a.props) = true) := fun h => by
            rw [decide_eq_true_eq]
            intro hm
            rw [(rhas_mem hra p.name).2 ⟨p, hm, rfl⟩] at h; cases h
          have HM1 : Hid (∀ x, a.props[rpos a.props p.name]? = some x → decide (p ∉ a.props) = !decide (x = p)) := fun x hx => by
            by_cases hxp : x = p
            · subst hxp
              have hmem := List.mem_of_getElem? hx
              simp [hmem]
            · have hmem : p ∉ a.props := fun hm => hxp (by have := rpos_of hra hm; rw [hx] at this; exact Option.some.inj this)
              simp [hmem, hxp]
          have HPL : Hid (rhas a.props p.name = true → ∃ x, a.props[rpos a.props p.name]? = some x ∧ rpos a.props p.name < a.props.length) := fun h => by
            obtain ⟨q, hq, hqn⟩ := (rhas_mem hra p.name).1 h
            have := rpos_of hra hq
            rw [hqn] at this
            exact ⟨q, this, (List.getElem?_eq_some_iff.1 this).1⟩
          clear hp hpok
          go_upto_region 11 with fail
          generalize wr.alloc (.cells #[.string p.name, .int .i64 p.v.ty, .int .i64 p.v.n, .string p.v.s] 33) = wa at *
          have hWa := hbr'.trans (ha1.mono hbr'.size)
          have x2 := cell_below hWa X2.out
          have z0 := block_cell hbk 0
          have HBK := Lib.hid hbk
          have hx := HFA.out p.name wa hWa
          have HOa := Lib.hid (HO.out.below ha1)
          have hBa := hbr.trans (ha1.mono HO.out.b)
          generalize rpos a.props p.name = rp at *
          generalize rhas a.props p.name = rh at *
          generalize decide (p ∉ a.props) = nm at *
          clear q0 q1 q2 q3 x0 y2 hbr hbr' HO ha1 hbk
          go_wp2_with fail
          refine hx.mono ?_
          clear hx x2 z0
          rintro e w2 ⟨rfl, hb2⟩
          have hW2 := hWa.trans (hb2.mono hWa.size)
          have x0 := cell_below hW2 X0.out
          have x2 := cell_below hW2 X2.out
          have hbk2 := (hb2.block _ (Array.getElem?_eq_some_iff.1 HBK.out).1).trans HBK.out
          have z0 := block_cell hbk2 0
          have z1 := block_cell hbk2 1
          have z2 := block_cell hbk2 2
          have z3 := block_cell hbk2 3
          have HO2 := Lib.hid (HOa.out.below hb2)
          have hB2 := hBa.trans (hb2.mono HOa.out.b)
          clear HOa hb2 hWa hBa hbk2 HBK
          cases rh with
          | false =>
            have HN : Hid (setL a b (k + 1) = setL a b k ++ [setOpr a.id p]) := by unfold Hid; rw [HST.out, HM0.out rfl]; rfl
            clear HST HM0 HM1 HPL
            go_wp2_with fail
            go_quiet (fail)
            have HO3 := Lib.hid (HO2.out.below (below_drewN (Below.refl w2.heap.size w2) nq))
            have hB3 := below_drewN hB2 nq
            -- an op more: 67, 73: the slots; setOpr a.id p: the op; .slice none 0 0: its record's value; w2.drewN nq: the world before it is built; ul ++ setL a b k: the row of ops; xs: its cells; HO3: the Hid of OpsW there; $9: the bound on the row
            have hoa := (HO3).out.o.alloc (.cells (oprCells (setOpr a.id p) (.slice none 0 0)) 37)
            have hra := (HO3).out.r.below (Below.alloc (Below.refl _ _) (Nat.le_refl _) (.cells (oprCells (setOpr a.id p) (.slice none 0 0)) 37))
            have hsb := (HO3).out.b
            obtain ⟨nl, hnl⟩ : ∃ nl, (ul ++ setL a b k).length = nl := ⟨_, rfl⟩
            have hnlb : nl ≤ 100000 := by omega
            rw [hnl] at hoa
            have HNL := Lib.hid hnl
            clear hnl
            obtain ⟨Ap, cp, hvp, hpc, hpm⟩ := hoa.form
            subst hvp
            have HNW : Hid (∀ j u, (oprCells (setOpr a.id p) (.slice none 0 0)).toList[j]? = some u → ((w2.drewN nq).alloc (.cells (oprCells (setOpr a.id p) (.slice none 0 0)) 37)).cell? ⟨(w2.drewN nq).heap.size, j, none⟩ = some u) := fun j u hj => by
              rw [World.cell?_alloc_at _ _ _ _ rfl]; simpa using hj
            have HOA := Lib.hid hoa
            have HRA := Lib.hid hra
            have HSB : Hid (B ≤ ((w2.drewN nq).alloc (.cells (oprCells (setOpr a.id p) (.slice none 0 0)) 37)).heap.size) := Nat.le_trans hsb (Below.alloc (Below.refl _ _) (Nat.le_refl _) (.cells (oprCells (setOpr a.id p) (.slice none 0 0)) 37)).size
            clear hoa hra
            go_wp2_with (first
              | (at_builtin; refine wpList_append_q _ rfl (.tmp 67) (.tmp 73) _ rfl B 37 i0 opr0 11 136 Tryz.underlying38 ei ez ez1 ez2 rfl (by decide) (.slice Ap nl cp) nl (xs) rfl HOA.out (some ⟨(w2.drewN nq).heap.size, 0, none⟩) 1 1 (oprCells (setOpr a.id p) (.slice none 0 0)).toList rfl rfl (fun _ => ⟨_, rfl, fun j u hj => by rw [addr_add, Nat.zero_add]; exact HNW.out j u hj⟩) (fun u hu => by simp [oprCells] at hu; rcases hu with rfl | rfl | rfl | rfl | rfl | rfl | rfl | rfl | rfl | rfl | rfl <;> rfl) (by unfold maxLen; omega) (by omega) HSB.out ?_; intro v7 w7 hown7 hg7 hat7))
            -- the op is there: setOpr a.id p: the op; .slice none 0 0: its record's value; hia (by show (0 : Nat) ≤ 1048576; omega) HPK.out ⟨by show (0 : Nat) ≤ 1048576; omega, by show I64 (0 : Int); unfold I64; omega, by show I64 (0 : Int); unfold I64; omega⟩ (OwnP.none _ _): the world before; $4: its record's OwnP (a term over 'B'); $5, $6, $7: the id's, the kind's, the property's, the tie's facts
            have hpush := OpsW.push HNL.out HOA.out HRA.out HSB.out (m := [setOpr a.id p]) (ys := (oprCells (setOpr a.id p) (.slice none 0 0)).toList) (OwnOps.one hia (by show (0 : Nat) ≤ 1048576; omega) HPK.out ⟨by show (0 : Nat) ≤ 1048576; omega, by show I64 (0 : Int); unfold I64; omega, by show I64 (0 : Int); unfold I64; omega⟩ (OwnP.none _ _)) hown7 hg7
            have hB7 : Below B W0 w7 := (hB3.alloc HO3.out.b _).trans hpush.2.1
            have HO7 : Hid (OpsW B w7 v7 (ul ++ setL a b (k + 1)) (xs ++ (oprCells (setOpr a.id p) (.slice none 0 0)).toList)) := by unfold Hid; rw [HN.out, ← List.append_assoc]; exact hpush.1
            clear hpush hg7 hat7 hown7 HOA HRA HNW
            go_roundw
            case rel => exact ⟨k + 1, _, by omega, by go_num, hB7, HO7⟩
            case measure => simp [intOf]; omega
          | true =>
            obtain ⟨x, hx, hrl⟩ := HPL.out rfl
            have hrl' : (rp : Int) < (a.props.length : Int) := by omega
            have hme := HM1.out x hx
            obtain ⟨ga, oa, rfl, _, p0, p1, p2, p3⟩ := prp_at (HA.out.below hW2) hx
            have hneq := prp_neq x p
            have hgd := prp_guard
            clear hx HM0 HM1 HPL
            by_cases hq : x = p
            · have HN : Hid (setL a b (k + 1) = setL a b k) := by unfold Hid; rw [HST.out, hme, decide_eq_true hq]; simp
              rw [decide_eq_true hq] at hneq
              clear HST hq hme
              go_wp2_with fail
              go_quiet (fail)
              go_wp2_with fail
              go_roundw
              case rel => exact ⟨k + 1, xs, by omega, by go_num, below_drewN hB2 _, by rw [HN.out]; exact HO2.out.below (below_drewN (Below.refl _ _) _)⟩
              case measure => simp [intOf]; omega
            · have HN : Hid (setL a b (k + 1) = setL a b k ++ [setOpr a.id p]) := by unfold Hid; rw [HST.out, hme, decide_eq_false hq]; rfl
              rw [decide_eq_false hq] at hneq
              clear HST hq hme
              go_wp2_with fail
              go_quiet (fail)
              clear p0 p1 p2 p3
              have HO3 := Lib.hid (HO2.out.below (below_drewN (Below.refl w2.heap.size w2) nq))
              have hB3 := below_drewN hB2 nq
              -- an op more: 67, 73: the slots; setOpr a.id p: the op; .slice none 0 0: its record's value; w2.drewN nq: the world before it is built; ul ++ setL a b k: the row of ops; xs: its cells; HO3: the Hid of OpsW there; $9: the bound on the row
              have hoa := (HO3).out.o.alloc (.cells (oprCells (setOpr a.id p) (.slice none 0 0)) 37)
              have hra := (HO3).out.r.below (Below.alloc (Below.refl _ _) (Nat.le_refl _) (.cells (oprCells (setOpr a.id p) (.slice none 0 0)) 37))
              have hsb := (HO3).out.b
              obtain ⟨nl, hnl⟩ : ∃ nl, (ul ++ setL a b k).length = nl := ⟨_, rfl⟩
              have hnlb : nl ≤ 100000 := by omega
              rw [hnl] at hoa
              have HNL := Lib.hid hnl
              clear hnl
              obtain ⟨Ap, cp, hvp, hpc, hpm⟩ := hoa.form
              subst hvp
              have HNW : Hid (∀ j u, (oprCells (setOpr a.id p) (.slice none 0 0)).toList[j]? = some u → ((w2.drewN nq).alloc (.cells (oprCells (setOpr a.id p) (.slice none 0 0)) 37)).cell? ⟨(w2.drewN nq).heap.size, j, none⟩ = some u) := fun j u hj => by
                rw [World.cell?_alloc_at _ _ _ _ rfl]; simpa using hj
              have HOA := Lib.hid hoa
              have HRA := Lib.hid hra
              have HSB : Hid (B ≤ ((w2.drewN nq).alloc (.cells (oprCells (setOpr a.id p) (.slice none 0 0)) 37)).heap.size) := Nat.le_trans hsb (Below.alloc (Below.refl _ _) (Nat.le_refl _) (.cells (oprCells (setOpr a.id p) (.slice none 0 0)) 37)).size
              clear hoa hra
              go_wp2_with (first
                | (at_builtin; refine wpList_append_q _ rfl (.tmp 67) (.tmp 73) _ rfl B 37 i0 opr0 11 136 Tryz.underlying38 ei ez ez1 ez2 rfl (by decide) (.slice Ap nl cp) nl (xs) rfl HOA.out (some ⟨(w2.drewN nq).heap.size, 0, none⟩) 1 1 (oprCells (setOpr a.id p) (.slice none 0 0)).toList rfl rfl (fun _ => ⟨_, rfl, fun j u hj => by rw [addr_add, Nat.zero_add]; exact HNW.out j u hj⟩) (fun u hu => by simp [oprCells] at hu; rcases hu with rfl | rfl | rfl | rfl | rfl | rfl | rfl | rfl | rfl | rfl | rfl <;> rfl) (by unfold maxLen; omega) (by omega) HSB.out ?_; intro v7 w7 hown7 hg7 hat7))
              -- the op is there: setOpr a.id p: the op; .slice none 0 0: its record's value; hia (by show (0 : Nat) ≤ 1048576; omega) HPK.out ⟨by show (0 : Nat) ≤ 1048576; omega, by show I64 (0 : Int); unfold I64; omega, by show I64 (0 : Int); unfold I64; omega⟩ (OwnP.none _ _): the world before; $4: its record's OwnP (a term over 'B'); $5, $6, $7: the id's, the kind's, the property's, the tie's facts
              have hpush := OpsW.push HNL.out HOA.out HRA.out HSB.out (m := [setOpr a.id p]) (ys := (oprCells (setOpr a.id p) (.slice none 0 0)).toList) (OwnOps.one hia (by show (0 : Nat) ≤ 1048576; omega) HPK.out ⟨by show (0 : Nat) ≤ 1048576; omega, by show I64 (0 : Int); unfold I64; omega, by show I64 (0 : Int); unfold I64; omega⟩ (OwnP.none _ _)) hown7 hg7
              have hB7 : Below B W0 w7 := (hB3.alloc HO3.out.b _).trans hpush.2.1
              have HO7 : Hid (OpsW B w7 v7 (ul ++ setL a b (k + 1)) (xs ++ (oprCells (setOpr a.id p) (.slice none 0 0)).toList)) := by unfold Hid; rw [HN.out, ← List.append_assoc]; exact hpush.1
              clear hpush hg7 hat7 hown7 HOA HRA HNW
              go_roundw
              case rel => exact ⟨k + 1, _, by omega, by go_num, hB7, HO7⟩
              case measure => simp [intOf]; omega
        · obtain rfl : k = b.props.length := by omega
          have HE : Hid (propsL a b = ul ++ setL a b b.props.length) := by
            unfold Hid propsL; rw [HU.out]; unfold setL; rw [List.take_length]
          have HX : Hid (Below w.heap.size w wr) := hb0.trans (hbr'.mono hw0)
          obtain ⟨Ap, cp, hvp, _, _⟩ := HO.out.o.form
          subst hvp
          clear x0 x2 y2 hbr'
          go_wp2_with fail
          go_ret
          exact ⟨_, _, rfl, by rw [HE.out]; exact ⟨HO.out.o.mono (by omega), HO.out.r.mono (by omega), Nat.le_trans (by omega) HO.out.b⟩, HX.out⟩
end Go.Proofs.YtngbbefpphinjaaGreatDoor
