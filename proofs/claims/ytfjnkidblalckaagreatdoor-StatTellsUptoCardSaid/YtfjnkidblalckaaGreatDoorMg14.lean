/- Parts: StK, FarQ, FarD. -/
import Derived.Test.YtfjnkidblalckaaGreatDoorMg11
import Derived.Test.YtfjnkidblalckaaGreatDoorMg13
import Derived.Deep.DeepCutAuto
/- Contracts: stat.Kinds, stat.Bonds: how many there are of each. No condition. -/
namespace Go.Proofs.YtfjnkidblalckaaGreatDoor
open Go Go.RowKit


def kCount (g : Grf) (k : Knd) : Nat := g.nodes.countP fun n => decide (n.kind = k.name)
def bCount (g : Grf) (b : Bnd) : Nat := g.ties.countP fun t => decide (t.bond = b.name)
def kindsL (s : Scm) (g : Grf) : List Int := s.kinds.map fun k => (kCount g k : Int)
def bondsL (s : Scm) (g : Grf) : List Int := s.bonds.map fun b => (bCount g b : Int)
def kindsR (s : Scm) (g : Grf) : List Int := if readySG s g = 0 then kindsL s g else []
def bondsR (s : Scm) (g : Grf) : List Int := if readySG s g = 0 then bondsL s g else []
theorem ready_len {s : Scm} {g : Grf} (h : readySG s g = 0) : g.nodes.length ≤ 60 ∧ g.ties.length ≤ 120 ∧ s.kinds.length ≤ 12 ∧ s.bonds.length ≤ 12 := by
  unfold readySG at h
  split at h
  · rename_i h1
    unfold scmE at h1
    split at h1
    · rename_i h0
      split at h1
      · simp at h1
      · exact ⟨(grf_ok h).1, (grf_ok h).2.1, (checkE_zero h0).len, by omega⟩
    · rename_i h0; exact absurd h1 h0
  · rename_i h1; exact absurd h h1
theorem count_snoc {D : Type} (p : D → Bool) {l : List D} {k : Nat} {d : D} (h : l[k]? = some d) : (l.take (k + 1)).countP p = (l.take k).countP p + if p d then 1 else 0 := by
  rw [List.take_add_one, h, List.countP_append]; simp
theorem map_snoc {D E : Type} (f : D → E) {l : List D} {k : Nat} {d : D} (h : l[k]? = some d) : (l.map f).take (k + 1) = (l.map f).take k ++ [f d] := by
  rw [List.take_add_one, List.getElem?_map, h]; rfl
set_option maxRecDepth 100000 in
set_option maxHeartbeats 8000000 in
theorem skinds_any (s : Scm) (g : Grf) (vk vb vn vt : Value) (w : World) (hs : ScmR w vk vb s) (hg : GrfR w vn vt g) :
    Calls Tryz.prog 5 #[.agg #[vk, vb], .agg #[vn, vt]] w (RetSl intL (kindsR s g) (readySG s g) w) := by
  obtain ⟨i0, hi, hz, hz1, hz2⟩ := info_parts int_info
  obtain ⟨A1, c1, rfl, _, _⟩ := hs.1.form
  obtain ⟨A2, c2, rfl, _, _⟩ := hs.2.form
  obtain ⟨A3, c3, rfl, _, _⟩ := hg.1.form
  obtain ⟨A4, c4, rfl, _, _⟩ := hg.2.form
  obtain ⟨W0, hW0⟩ : ∃ W0, W0 = (w.alloc (.cells #[.slice A1 s.kinds.length c1, .slice A2 s.bonds.length c2] 25)).alloc (.cells #[.slice A3 g.nodes.length c3, .slice A4 g.ties.length c4] 29) := ⟨_, rfl⟩
  have hb0 : Below w.heap.size w W0 := by rw [hW0]; exact ((Below.refl _ _).alloc (Nat.le_refl _) _).alloc (by simp) _
  have g0 : W0.heap[w.heap.size]? = some (.cells #[.slice A1 s.kinds.length c1, .slice A2 s.bonds.length c2] 25 (0, 0)) := by
    rw [hW0, Below.heap_alloc _ _ _ (by simp)]; exact heap_alloc_new _ _
  have g1 : W0.heap[w.heap.size + 1]? = some (.cells #[.slice A3 g.nodes.length c3, .slice A4 g.ties.length c4] 29 (0, 0)) := by
    have := heap_alloc_new (w.alloc (.cells #[.slice A1 s.kinds.length c1, .slice A2 s.bonds.length c2] 25)) (.cells #[.slice A3 g.nodes.length c3, .slice A4 g.ties.length c4] 29); rw [hW0]; simpa using this
  have hW0' := hW0.symm
  have HG0 := Lib.hid g0
  have HG1 := Lib.hid g1
  have x0 := block_cell g0 0
  have x1 := block_cell g0 1
  have y0 := block_cell g1 0
  have y1 := block_cell g1 1
  have hw0 := hb0.size
  have hx := cready_any s g _ _ _ _ W0 (hs.below hb0) (hg.below hb0)
  have HS := Lib.hid (hs.below hb0)
  have HG := Lib.hid (hg.below hb0)
  have HRL : Hid (readySG s g = 0 → g.nodes.length ≤ 60 ∧ g.ties.length ≤ 120 ∧ s.kinds.length ≤ 12 ∧ s.bonds.length ≤ 12) := ready_len
  have HR : Hid (kindsR s g = if readySG s g = 0 then kindsL s g else []) := rfl
  generalize readySG s g = z at *
  generalize kindsR s g = out at *
  clear hs hg g0 g1 hW0
  have X0 := Lib.hid x0
  have X1 := Lib.hid x1
  have Y0 := Lib.hid y0
  have Y1 := Lib.hid y1
  go_enter Tryz.func5, Tryz.ntmps5
  go_wp2_with fail
  clear hW0'
  refine hx.mono ?_
  clear hx x0 x1 y0 y1
  rintro e w1 ⟨rfl, hb1⟩
  have hB1 := hb0.trans (hb1.mono hw0)
  by_cases hz0 : z = 0
  case neg =>
    have HE : Hid (out = []) := by unfold Hid; rw [HR.out, if_neg hz0]
    have HEV : Hid (errV z = .iface 62 (.int .i64 z)) := errV_some hz0
    rw [errV_some hz0]
    clear hz0
    go_wp2_with fail
    go_ret2
    exact ⟨_, by rw [HEV.out]; rfl, by rw [HE.out]; exact Sl.nil 0 (by unfold maxLen; omega) none, hB1⟩
  have HEV : Hid (errV z = .nilIface) := errV_zero hz0
  have HE : Hid (out = kindsL s g) := by unfold Hid; rw [HR.out, if_pos hz0]
  obtain ⟨l1, l2, l3, l4⟩ := HRL.out hz0
  rw [errV_zero hz0]
  have x0 := cell_below hb1 X0.out
  have x1 := cell_below hb1 X1.out
  clear hz0 HRL HR
  go_wp2_with fail
  clear x0 x1
  go_loopw [7, 22] (fun ov i wr => ∃ k : Nat, k ≤ s.kinds.length ∧ i = .int .i64 k ∧ Below w1.heap.size w1 wr ∧ Own wr w1.heap.size 3 1 ov k (((kindsL s g).take k).map (Value.int .i64))) (fun _ i _ => s.kinds.length - (intOf i).toNat)
  case atStart => exact ⟨0, Nat.zero_le _, rfl, Below.refl _ _, Own.nil _ _ _ _⟩
  case round =>
    obtain ⟨k, hk, rfl, hb1r, hown⟩ := hrel
    have hWr : Below W0.heap.size W0 wr := hb1.trans (hb1r.mono hb1.size)
    by_cases hlt : k < s.kinds.length
    · obtain ⟨d, hd⟩ : ∃ d, s.kinds[k]? = some d := ⟨_, List.getElem?_eq_getElem hlt⟩
      have hlt' : (k : Int) < (s.kinds.length : Int) := by omega
      obtain ⟨gk, ok, rfl, us, xs, _, hu1, hu2, p0, p1, p2⟩ := knd_at HS.out.1 hd
      obtain ⟨Au1, cu1, rfl, _, _⟩ := hu1.form
      obtain ⟨Au2, cu2, rfl, _, _⟩ := hu2.form
      have p0 := cell_below hWr p0
      have p1 := cell_below hWr p1
      have p2 := cell_below hWr p2
      have hbk := heap_alloc_new wr (.cells #[.string d.name, .slice Au1 d.ofs.length cu1, .slice Au2 d.fields.length cu2] 39)
      have ha1 : Below wr.heap.size wr (wr.alloc (.cells #[.string d.name, .slice Au1 d.ofs.length cu1, .slice Au2 d.fields.length cu2] 39)) := (Below.refl _ _).alloc (Nat.le_refl _) _
      have HMS : Hid ((kindsL s g).take (k + 1) = (kindsL s g).take k ++ [(kCount g d : Int)]) := map_snoc _ hd
      clear hd
      go_upto_region 8 with fail
      generalize wr.alloc (.cells #[.string d.name, .slice Au1 d.ofs.length cu1, .slice Au2 d.fields.length cu2] 39) = wa at *
      have hWa := hWr.trans (ha1.mono hWr.size)
      have hb1a := hb1r.trans (ha1.mono hb1r.size)
      have z0 := block_cell hbk 0
      have y0 := cell_below hWa Y0.out
      have y1 := cell_below hWa Y1.out
      have hba1 := ha1
      clear hbk ha1 hb1r hWr
      go_wp2_with fail
      clear y0 y1
      go_loopw [10, 29] (fun n i w4 => ∃ k2 : Nat, k2 ≤ g.nodes.length ∧ i = .int .i64 k2 ∧ n = .int .i64 ((g.nodes.take k2).countP (fun x => decide (x.kind = d.name)) : Nat) ∧ Below wa.heap.size wa w4) (fun _ i _ => g.nodes.length - (intOf i).toNat)
      case atStart => exact ⟨0, Nat.zero_le _, rfl, by simp, Below.refl _ _⟩
      case round =>
        obtain ⟨k2, hk3, rfl, rfl, hb4⟩ := hrel
        have hcl : (g.nodes.take k2).countP (fun x => decide (x.kind = d.name)) ≤ k2 := Nat.le_trans List.countP_le_length (by rw [List.length_take]; omega)
        have hba := hWa.trans (hb4.mono hWa.size)
        have z0 := cell_below hb4 z0
        by_cases hk4 : k2 < g.nodes.length
        · obtain ⟨x, hx⟩ : ∃ d, g.nodes[k2]? = some d := ⟨_, List.getElem?_eq_getElem hk4⟩
          have hk4' : (k2 : Int) < (g.nodes.length : Int) := by omega
          obtain ⟨gb, o, rfl, u, _, _, hpr, q0, q1, q2⟩ := nod_at HG.out.1 hx
          obtain ⟨Au, cu, rfl, _, _⟩ := hpr.form
          have q0 := cell_below hba q0
          have q1 := cell_below hba q1
          have q2 := cell_below hba q2
          have HST := Lib.hid (count_snoc (fun x => decide (x.kind = d.name)) hx)
          have hbx : Below wr.heap.size wr (wr.alloc (.cells #[.int .i64 x.id, .string x.kind, .slice Au x.props.length cu] 35)) := (Below.refl _ _).alloc (Nat.le_refl _) _
          have hb5 := hb4.trans (hbx.mono hb4.size)
          have z0' := cell_below hbx z0
          have hkb : (x.kind.toList == d.name.toList) = decide (x.kind = d.name) := bytes_beq _ _
          clear hx
          generalize (g.nodes.take k2).countP (fun x => decide (x.kind = d.name)) = cn at *
          by_cases hq : x.kind = d.name
          · rw [decide_eq_true hq] at hkb
            have hkc : x.kind.toList = d.name.toList := by rw [hq]
            have HN : Hid ((g.nodes.take (k2 + 1)).countP (fun x => decide (x.kind = d.name)) = cn + 1) := by unfold Hid; rw [HST.out, decide_eq_true hq]; rfl
            have hw1 : IntKind.i64.wrap ((cn : Int) + 1) = (cn : Int) + 1 := IntWalk.i64_in _ (by omega)
            clear HST hq
            go_wp2_with fail
            go_roundw
            case rel => exact ⟨k2 + 1, by omega, by go_num, by rw [HN.out]; go_num, hb5⟩
            case measure => simp [intOf]; omega
          · rw [decide_eq_false hq] at hkb
            have hkc : ¬ x.kind.toList = d.name.toList := by rw [bytes_eq]; exact hq
            have HN : Hid ((g.nodes.take (k2 + 1)).countP (fun x => decide (x.kind = d.name)) = cn) := by unfold Hid; rw [HST.out, decide_eq_false hq]; rfl
            clear HST hq
            go_wp2_with fail
            go_roundw
            case rel => exact ⟨k2 + 1, by omega, by go_num, by rw [HN.out], hb5⟩
            case measure => simp [intOf]; omega
        · obtain rfl : k2 = g.nodes.length := by omega
          rw [List.take_length]
          have HSN : Hid ((kindsL s g).take (k + 1) = (kindsL s g).take k ++ [((g.nodes.countP (fun x => decide (x.kind = d.name)) : Nat) : Int)]) := HMS
          have hcl : g.nodes.countP (fun x => decide (x.kind = d.name)) ≤ g.nodes.length := List.countP_le_length
          generalize g.nodes.countP (fun x => decide (x.kind = d.name)) = cn at *
          have hb1r := hb1a.trans (hb4.mono hb1a.size)
          have hpo := (hown.below (hba1.trans (hb4.mono hba1.size)))
          obtain ⟨Ap, cp, rfl, hpc, hpm⟩ := hpo.form
          have hpo2 := hpo.alloc (.cells #[.int .i64 cn] 3)
          have hm1 := hb1r.size
          clear hb4 z0 HMS
          go_wp2_with (first
            | (at_builtin; refine wpList_append_q _ rfl (.tmp 41) (.tmp 43) _ rfl w1.heap.size 3 i0 (.int .i64 0) 1 8 Tryz.underlying31 hi hz hz1 hz2 rfl (by decide) (.slice Ap k cp) k (((kindsL s g).take k).map (Value.int .i64)) rfl hpo2 (some ⟨wr.heap.size, 0, none⟩) 1 1 [.int .i64 cn] rfl rfl (fun _ => ⟨_, rfl, cell_one_new wr (.int .i64 cn) 3⟩) (by simp [Value.oneCell']) (by unfold maxLen; omega) (by omega) (by simp; omega) ?_; intro v7 w7 hown7 hg7 hat7))
          have hb7 : Below w1.heap.size w1 w7 := (hb1r.alloc hm1 _).grown hg7 (by simp; omega) (fun kk hkk => (hpo.lt kk hkk).1)
          have ho7 : Own w7 w1.heap.size 3 1 v7 (k + 1) (((kindsL s g).take (k + 1)).map (Value.int .i64)) := by rw [HSN.out, List.map_append]; exact hown7
          clear hg7 hat7 hown7
          go_roundw
          case rel => exact ⟨k + 1, by omega, by go_num, hb7, ho7⟩
          case measure => simp [intOf]; omega
    · obtain rfl : k = s.kinds.length := by omega
      have hle : (kindsL s g).length = s.kinds.length := by simp [kindsL]
      have HX : Hid (Sl intL wr u7 out) := by
        unfold Hid
        rw [HE.out]
        refine Own.ints (fun x hx => ?_) (by rw [hle]; rw [List.take_of_length_le (by rw [hle]; exact Nat.le_refl _)] at hown; exact hown)
        obtain ⟨d, _, rfl⟩ := List.mem_map.1 hx
        have : kCount g d ≤ 120 := Nat.le_trans List.countP_le_length (by omega)
        unfold I64; omega
      obtain ⟨Ap, cp, rfl, hpc, hpm⟩ := hown.form
      clear hown
      go_wp2_with fail
      go_ret2
      exact ⟨_, by rw [HEV.out]; rfl, HX.out, hB1.trans (hb1r.mono hB1.size)⟩
set_option maxRecDepth 100000 in
set_option maxHeartbeats 8000000 in
theorem sbonds_any (s : Scm) (g : Grf) (vk vb vn vt : Value) (w : World) (hs : ScmR w vk vb s) (hg : GrfR w vn vt g) :
    Calls Tryz.prog 7 #[.agg #[vk, vb], .agg #[vn, vt]] w (RetSl intL (bondsR s g) (readySG s g) w) := by
  obtain ⟨i0, hi, hz, hz1, hz2⟩ := info_parts int_info
  obtain ⟨A1, c1, rfl, _, _⟩ := hs.1.form
  obtain ⟨A2, c2, rfl, _, _⟩ := hs.2.form
  obtain ⟨A3, c3, rfl, _, _⟩ := hg.1.form
  obtain ⟨A4, c4, rfl, _, _⟩ := hg.2.form
  obtain ⟨W0, hW0⟩ : ∃ W0, W0 = (w.alloc (.cells #[.slice A1 s.kinds.length c1, .slice A2 s.bonds.length c2] 25)).alloc (.cells #[.slice A3 g.nodes.length c3, .slice A4 g.ties.length c4] 29) := ⟨_, rfl⟩
  have hb0 : Below w.heap.size w W0 := by rw [hW0]; exact ((Below.refl _ _).alloc (Nat.le_refl _) _).alloc (by simp) _
  have g0 : W0.heap[w.heap.size]? = some (.cells #[.slice A1 s.kinds.length c1, .slice A2 s.bonds.length c2] 25 (0, 0)) := by
    rw [hW0, Below.heap_alloc _ _ _ (by simp)]; exact heap_alloc_new _ _
  have g1 : W0.heap[w.heap.size + 1]? = some (.cells #[.slice A3 g.nodes.length c3, .slice A4 g.ties.length c4] 29 (0, 0)) := by
    have := heap_alloc_new (w.alloc (.cells #[.slice A1 s.kinds.length c1, .slice A2 s.bonds.length c2] 25)) (.cells #[.slice A3 g.nodes.length c3, .slice A4 g.ties.length c4] 29); rw [hW0]; simpa using this
  have hW0' := hW0.symm
  have HG0 := Lib.hid g0
  have HG1 := Lib.hid g1
  have x0 := block_cell g0 0
  have x1 := block_cell g0 1
  have y0 := block_cell g1 0
  have y1 := block_cell g1 1
  have hw0 := hb0.size
  have hx := cready_any s g _ _ _ _ W0 (hs.below hb0) (hg.below hb0)
  have HS := Lib.hid (hs.below hb0)
  have HG := Lib.hid (hg.below hb0)
  have HRL : Hid (readySG s g = 0 → g.nodes.length ≤ 60 ∧ g.ties.length ≤ 120 ∧ s.kinds.length ≤ 12 ∧ s.bonds.length ≤ 12) := ready_len
  have HR : Hid (bondsR s g = if readySG s g = 0 then bondsL s g else []) := rfl
  generalize readySG s g = z at *
  generalize bondsR s g = out at *
  clear hs hg g0 g1 hW0
  have X0 := Lib.hid x0
  have X1 := Lib.hid x1
  have Y0 := Lib.hid y0
  have Y1 := Lib.hid y1
  go_enter Tryz.func7, Tryz.ntmps7
  go_wp2_with fail
  clear hW0'
  refine hx.mono ?_
  clear hx x0 x1 y0 y1
  rintro e w1 ⟨rfl, hb1⟩
  have hB1 := hb0.trans (hb1.mono hw0)
  by_cases hz0 : z = 0
  case neg =>
    have HE : Hid (out = []) := by unfold Hid; rw [HR.out, if_neg hz0]
    have HEV : Hid (errV z = .iface 62 (.int .i64 z)) := errV_some hz0
    rw [errV_some hz0]
    clear hz0
    go_wp2_with fail
    go_ret2
    exact ⟨_, by rw [HEV.out]; rfl, by rw [HE.out]; exact Sl.nil 0 (by unfold maxLen; omega) none, hB1⟩
  have HEV : Hid (errV z = .nilIface) := errV_zero hz0
  have HE : Hid (out = bondsL s g) := by unfold Hid; rw [HR.out, if_pos hz0]
  obtain ⟨l1, l2, l3, l4⟩ := HRL.out hz0
  rw [errV_zero hz0]
  have x0 := cell_below hb1 X0.out
  have x1 := cell_below hb1 X1.out
  clear hz0 HRL HR
  go_wp2_with fail
  clear x0 x1
  go_loopw [7, 22] (fun ov i wr => ∃ k : Nat, k ≤ s.bonds.length ∧ i = .int .i64 k ∧ Below w1.heap.size w1 wr ∧ Own wr w1.heap.size 3 1 ov k (((bondsL s g).take k).map (Value.int .i64))) (fun _ i _ => s.bonds.length - (intOf i).toNat)
  case atStart => exact ⟨0, Nat.zero_le _, rfl, Below.refl _ _, Own.nil _ _ _ _⟩
  case round =>
    obtain ⟨k, hk, rfl, hb1r, hown⟩ := hrel
    have hWr : Below W0.heap.size W0 wr := hb1.trans (hb1r.mono hb1.size)
    by_cases hlt : k < s.bonds.length
    · obtain ⟨d, hd⟩ : ∃ d, s.bonds[k]? = some d := ⟨_, List.getElem?_eq_getElem hlt⟩
      have hlt' : (k : Int) < (s.bonds.length : Int) := by omega
      obtain ⟨gk, ok, rfl, _, p0, p1, p2, p3, p4⟩ := bnd_at HS.out.2 hd
      have p0 := cell_below hWr p0
      have p1 := cell_below hWr p1
      have p2 := cell_below hWr p2
      have p3 := cell_below hWr p3
      have p4 := cell_below hWr p4
      have hbk := heap_alloc_new wr (.cells #[.string d.name, .string d.src, .string d.dst, .int .i64 d.mn, .int .i64 d.mx] 43)
      have ha1 : Below wr.heap.size wr (wr.alloc (.cells #[.string d.name, .string d.src, .string d.dst, .int .i64 d.mn, .int .i64 d.mx] 43)) := (Below.refl _ _).alloc (Nat.le_refl _) _
      have HMS : Hid ((bondsL s g).take (k + 1) = (bondsL s g).take k ++ [(bCount g d : Int)]) := map_snoc _ hd
      clear hd
      go_upto_region 8 with fail
      generalize wr.alloc (.cells #[.string d.name, .string d.src, .string d.dst, .int .i64 d.mn, .int .i64 d.mx] 43) = wa at *
      have hWa := hWr.trans (ha1.mono hWr.size)
      have hb1a := hb1r.trans (ha1.mono hb1r.size)
      have z0 := block_cell hbk 0
      have y0 := cell_below hWa Y0.out
      have y1 := cell_below hWa Y1.out
      have hba1 := ha1
      clear hbk ha1 hb1r hWr
      go_wp2_with fail
      clear y0 y1
      go_loopw [10, 29] (fun n i w4 => ∃ k2 : Nat, k2 ≤ g.ties.length ∧ i = .int .i64 k2 ∧ n = .int .i64 ((g.ties.take k2).countP (fun x => decide (x.bond = d.name)) : Nat) ∧ Below wa.heap.size wa w4) (fun _ i _ => g.ties.length - (intOf i).toNat)
      case atStart => exact ⟨0, Nat.zero_le _, rfl, by simp, Below.refl _ _⟩
      case round =>
        obtain ⟨k2, hk3, rfl, rfl, hb4⟩ := hrel
        have hcl : (g.ties.take k2).countP (fun x => decide (x.bond = d.name)) ≤ k2 := Nat.le_trans List.countP_le_length (by rw [List.length_take]; omega)
        have hba := hWa.trans (hb4.mono hWa.size)
        have z0 := cell_below hb4 z0
        by_cases hk4 : k2 < g.ties.length
        · obtain ⟨x, hx⟩ : ∃ d, g.ties[k2]? = some d := ⟨_, List.getElem?_eq_getElem hk4⟩
          have hk4' : (k2 : Int) < (g.ties.length : Int) := by omega
          obtain ⟨gb, o, rfl, _, q0, q1, q2⟩ := tie_at HG.out.2 hx
          have q0 := cell_below hba q0
          have q1 := cell_below hba q1
          have q2 := cell_below hba q2
          have HST := Lib.hid (count_snoc (fun x => decide (x.bond = d.name)) hx)
          have hbx : Below wr.heap.size wr (wr.alloc (.cells #[.string x.bond, .int .i64 x.src, .int .i64 x.dst] 41)) := (Below.refl _ _).alloc (Nat.le_refl _) _
          have hb5 := hb4.trans (hbx.mono hb4.size)
          have z0' := cell_below hbx z0
          have hkb : (x.bond.toList == d.name.toList) = decide (x.bond = d.name) := bytes_beq _ _
          clear hx
          generalize (g.ties.take k2).countP (fun x => decide (x.bond = d.name)) = cn at *
          by_cases hq : x.bond = d.name
          · rw [decide_eq_true hq] at hkb
            have hkc : x.bond.toList = d.name.toList := by rw [hq]
            have HN : Hid ((g.ties.take (k2 + 1)).countP (fun x => decide (x.bond = d.name)) = cn + 1) := by unfold Hid; rw [HST.out, decide_eq_true hq]; rfl
            have hw1 : IntKind.i64.wrap ((cn : Int) + 1) = (cn : Int) + 1 := IntWalk.i64_in _ (by omega)
            clear HST hq
            go_wp2_with fail
            go_roundw
            case rel => exact ⟨k2 + 1, by omega, by go_num, by rw [HN.out]; go_num, hb5⟩
            case measure => simp [intOf]; omega
          · rw [decide_eq_false hq] at hkb
            have hkc : ¬ x.bond.toList = d.name.toList := by rw [bytes_eq]; exact hq
            have HN : Hid ((g.ties.take (k2 + 1)).countP (fun x => decide (x.bond = d.name)) = cn) := by unfold Hid; rw [HST.out, decide_eq_false hq]; rfl
            clear HST hq
            go_wp2_with fail
            go_roundw
            case rel => exact ⟨k2 + 1, by omega, by go_num, by rw [HN.out], hb5⟩
            case measure => simp [intOf]; omega
        · obtain rfl : k2 = g.ties.length := by omega
          rw [List.take_length]
          have HSN : Hid ((bondsL s g).take (k + 1) = (bondsL s g).take k ++ [((g.ties.countP (fun x => decide (x.bond = d.name)) : Nat) : Int)]) := HMS
          have hcl : g.ties.countP (fun x => decide (x.bond = d.name)) ≤ g.ties.length := List.countP_le_length
          generalize g.ties.countP (fun x => decide (x.bond = d.name)) = cn at *
          have hb1r := hb1a.trans (hb4.mono hb1a.size)
          have hpo := (hown.below (hba1.trans (hb4.mono hba1.size)))
          obtain ⟨Ap, cp, rfl, hpc, hpm⟩ := hpo.form
          have hpo2 := hpo.alloc (.cells #[.int .i64 cn] 3)
          have hm1 := hb1r.size
          clear hb4 z0 HMS
          go_wp2_with (first
            | (at_builtin; refine wpList_append_q _ rfl (.tmp 41) (.tmp 43) _ rfl w1.heap.size 3 i0 (.int .i64 0) 1 8 Tryz.underlying31 hi hz hz1 hz2 rfl (by decide) (.slice Ap k cp) k (((bondsL s g).take k).map (Value.int .i64)) rfl hpo2 (some ⟨wr.heap.size, 0, none⟩) 1 1 [.int .i64 cn] rfl rfl (fun _ => ⟨_, rfl, cell_one_new wr (.int .i64 cn) 3⟩) (by simp [Value.oneCell']) (by unfold maxLen; omega) (by omega) (by simp; omega) ?_; intro v7 w7 hown7 hg7 hat7))
          have hb7 : Below w1.heap.size w1 w7 := (hb1r.alloc hm1 _).grown hg7 (by simp; omega) (fun kk hkk => (hpo.lt kk hkk).1)
          have ho7 : Own w7 w1.heap.size 3 1 v7 (k + 1) (((bondsL s g).take (k + 1)).map (Value.int .i64)) := by rw [HSN.out, List.map_append]; exact hown7
          clear hg7 hat7 hown7
          go_roundw
          case rel => exact ⟨k + 1, by omega, by go_num, hb7, ho7⟩
          case measure => simp [intOf]; omega
    · obtain rfl : k = s.bonds.length := by omega
      have hle : (bondsL s g).length = s.bonds.length := by simp [bondsL]
      have HX : Hid (Sl intL wr u7 out) := by
        unfold Hid
        rw [HE.out]
        refine Own.ints (fun x hx => ?_) (by rw [hle]; rw [List.take_of_length_le (by rw [hle]; exact Nat.le_refl _)] at hown; exact hown)
        obtain ⟨d, _, rfl⟩ := List.mem_map.1 hx
        have : bCount g d ≤ 120 := Nat.le_trans List.countP_le_length (by omega)
        unfold I64; omega
      obtain ⟨Ap, cp, rfl, hpc, hpm⟩ := hown.form
      clear hown
      go_wp2_with fail
      go_ret2
      exact ⟨_, by rw [HEV.out]; rfl, HX.out, hB1.trans (hb1r.mono hB1.size)⟩
end Go.Proofs.YtfjnkidblalckaaGreatDoor

/- Plain: the search by breadth reaches just what hangs together; the parts are the classes of that. -/
namespace Go.Proofs.YtfjnkidblalckaaGreatDoor

/-! ### Numbers that rise tell nodes apart -/
theorem chain_lt {l : List Nod} (hc : chain nodLt l = true) : ∀ {i j : Nat} {a b : Nod}, i < j → l[i]? = some a → l[j]? = some b → a.id < b.id := by
  intro i j
  induction j with
  | zero => intro a b h; omega
  | succ j ih =>
    intro a b h ha hb
    have hj : j < l.length := by have := (List.getElem?_eq_some_iff.1 hb).1; omega
    have h1 := chain_iff.1 hc j l[j] b (List.getElem?_eq_getElem hj) hb
    simp only [nodLt, decide_eq_true_eq] at h1
    rcases Nat.lt_or_ge i j with h2 | h2
    · have := ih (b := l[j]) h2 ha (List.getElem?_eq_getElem hj); omega
    · obtain rfl : i = j := by omega
      have := ha.symm.trans (List.getElem?_eq_getElem hj)
      cases this
      exact h1
theorem idAt_inj {l : List Nod} (hc : chain nodLt l = true) {i j : Nat} (hi : i < l.length) (hj : j < l.length) (h : idAt l i = idAt l j) : i = j := by
  have e1 : l[i]? = some l[i] := List.getElem?_eq_getElem hi
  have e2 : l[j]? = some l[j] := List.getElem?_eq_getElem hj
  unfold idAt at h
  rw [e1, e2] at h
  simp only at h
  rcases Nat.lt_trichotomy i j with h1 | h1 | h1
  · have := chain_lt hc h1 e1 e2; omega
  · exact h1
  · have := chain_lt hc h1 e2 e1; omega
theorem fhas_iff {l : List Nod} (hc : chain nodLt l = true) {id : Int} {k : Nat} : (fhas l id = true ∧ fpos l id = k) ↔ (k < l.length ∧ idAt l k = id) := by
  constructor
  · rintro ⟨h, rfl⟩
    refine ⟨fhas_lt h, ?_⟩
    unfold fhas eqAt at h
    split at h
    · rename_i d hd
      unfold idAt
      rw [hd]
      simp only [beq_iff_eq, nodC] at h
      exact cmpI_zero.1 h
    · cases h
  · rintro ⟨hk, h⟩
    have e1 : l[k]? = some l[k] := List.getElem?_eq_getElem hk
    have hid : l[k].id = id := by unfold idAt at h; rw [e1] at h; exact h
    have hp : fpos l id = k := by
      rcases Nat.lt_trichotomy (fpos l id) k with h1 | h1 | h1
      · have e2 : l[fpos l id]? = some l[fpos l id] := List.getElem?_eq_getElem (by omega)
        have h2 := chain_lt hc h1 e2 e1
        have h3 := low_ge (R := nodLt) hc (nodC_mono id) (i := fpos l id) (Nat.le_refl _) e2
        have := (@cmpI_neg l[fpos l id].id id)
        unfold nodC at h3
        omega
      · exact h1
      · have h3 := low_lt (c := nodC id) (l := l) (i := k) h1 e1
        have := (@cmpI_neg l[k].id id)
        unfold nodC at h3
        omega
    refine ⟨?_, hp⟩
    unfold fhas
    rw [hp]
    unfold eqAt
    rw [e1]
    simp [nodC, cmpI_zero, hid]

/-! ### Neighbours -/
def adj (g : Grf) (a b : Nat) : Prop := a < g.nodes.length ∧ b < g.nodes.length ∧ ∃ t ∈ g.ties, ∃ e ∈ tieEnds t, e.1 = idAt g.nodes a ∧ e.2 = idAt g.nodes b
theorem adj_symm {g : Grf} {a b : Nat} (h : adj g a b) : adj g b a := by
  obtain ⟨ha, hb, t, ht, e, he, h1, h2⟩ := h
  refine ⟨hb, ha, t, ht, (e.2, e.1), ?_, h2, h1⟩
  simp only [tieEnds, List.mem_cons, List.not_mem_nil, or_false] at he ⊢
  rcases he with rfl | rfl
  · exact Or.inr rfl
  · exact Or.inl rfl
inductive Conn (g : Grf) (i : Nat) : Nat → Prop
  | refl : Conn g i i
  | step {a b : Nat} : Conn g i a → adj g a b → Conn g i b
theorem Conn.trans {g : Grf} {i j k : Nat} (h1 : Conn g i j) (h2 : Conn g j k) : Conn g i k := by
  induction h2 with
  | refl => exact h1
  | step _ h ih => exact .step ih h
theorem Conn.symm {g : Grf} {i j : Nat} (h : Conn g i j) : Conn g j i := by
  induction h with
  | refl => exact .refl
  | step _ h ih => exact (Conn.step .refl (adj_symm h)).trans ih

/-! ### What the search marks -/
def Mk (st : List Int × List Nat) (k : Nat) : Prop := 0 ≤ st.1.getD k 0
theorem farEnd_mono {nodes : List Nod} {id d : Int} {e : Int × Int} {st : List Int × List Nat} (hn : st.1.length = nodes.length) (hd : 0 ≤ d) {k : Nat} (h : Mk st k) : Mk (farEnd nodes id d e st) k := by
  unfold farEnd
  split
  · rename_i hc
    unfold Mk at *
    by_cases hk : fpos nodes e.2 = k
    · subst hk
      rw [getD_set_self (by rw [hn]; exact fhas_lt hc.2.1)]; omega
    · rw [getD_set_other hk]; exact h
  · exact h
theorem farEnd_len {nodes : List Nod} {id d : Int} {e : Int × Int} {st : List Int × List Nat} : (farEnd nodes id d e st).1.length = st.1.length := by
  unfold farEnd; split <;> simp
/-- What is new is in the row; what was in the row is. -/
theorem farEnd_new {nodes : List Nod} {id d : Int} {e : Int × Int} {st : List Int × List Nat} {k : Nat} (h : Mk (farEnd nodes id d e st) k) : Mk st k ∨ k ∈ (farEnd nodes id d e st).2 := by
  unfold farEnd at h ⊢
  split
  · rename_i hc
    rw [if_pos hc] at h
    by_cases hk : fpos nodes e.2 = k
    · right; simp [hk]
    · left
      unfold Mk at *
      rwa [getD_set_other hk] at h
  · rename_i hc
    rw [if_neg hc] at h
    exact Or.inl h
theorem farEnd_row {nodes : List Nod} {id d : Int} {e : Int × Int} {st : List Int × List Nat} : ∃ more, (farEnd nodes id d e st).2 = st.2 ++ more := by
  unfold farEnd; split
  · exact ⟨_, rfl⟩
  · exact ⟨[], by simp⟩
/-- Behind it the other end is marked. -/
theorem farEnd_marks {nodes : List Nod} (hch : chain nodLt nodes = true) {id d : Int} {e : Int × Int} {st : List Int × List Nat} (hn : st.1.length = nodes.length) (hd : 0 ≤ d) {b : Nat} (hb : b < nodes.length) (h1 : e.1 = id) (h2 : e.2 = idAt nodes b) : Mk (farEnd nodes id d e st) b := by
  obtain ⟨hf, hp⟩ := (fhas_iff hch (id := e.2) (k := b)).2 ⟨hb, h2.symm⟩
  unfold farEnd
  by_cases hlt : st.1.getD (fpos nodes e.2) 0 < 0
  · rw [if_pos ⟨h1, hf, hlt⟩]
    unfold Mk
    rw [hp, getD_set_self (by rw [hn]; exact hb)]; omega
  · rw [if_neg (fun h => hlt h.2.2)]
    unfold Mk
    rw [hp] at hlt; omega
/-- What is newly marked hangs on the place that is gone from. -/
theorem farEnd_conn {g : Grf} (hch : chain nodLt g.nodes = true) {i r : Nat} (hr : r < g.nodes.length) {d : Int} {e : Int × Int} {t : Tie} (ht : t ∈ g.ties) (he : e ∈ tieEnds t) {st : List Int × List Nat} (hcr : Conn g i r)
    (hall : ∀ k, k < g.nodes.length → Mk st k → Conn g i k) : ∀ k, k < g.nodes.length → Mk (farEnd g.nodes (idAt g.nodes r) d e st) k → Conn g i k := by
  intro k hk h
  unfold farEnd at h
  split at h
  · rename_i hc
    by_cases hk2 : fpos g.nodes e.2 = k
    · obtain ⟨h1, h2⟩ := (fhas_iff hch (id := e.2) (k := k)).1 ⟨hc.2.1, hk2⟩
      exact .step hcr ⟨hr, h1, t, ht, e, he, hc.1, h2.symm⟩
    · refine hall k hk ?_
      unfold Mk at *
      rwa [getD_set_other hk2] at h
  · exact hall k hk h

/-- What a list of ends makes of a state. -/
structure Grew (nodes : List Nod) (st st' : List Int × List Nat) : Prop where
  len : st'.1.length = st.1.length
  mono : ∀ k, Mk st k → Mk st' k
  new : ∀ k, Mk st' k → Mk st k ∨ k ∈ st'.2
  row : ∃ more, st'.2 = st.2 ++ more
theorem Grew.refl (nodes : List Nod) (st : List Int × List Nat) : Grew nodes st st := ⟨rfl, fun _ h => h, fun _ h => .inl h, ⟨[], by simp⟩⟩
theorem Grew.trans {nodes : List Nod} {a b c : List Int × List Nat} (h1 : Grew nodes a b) (h2 : Grew nodes b c) : Grew nodes a c := by
  obtain ⟨m1, r1⟩ := h1.row
  obtain ⟨m2, r2⟩ := h2.row
  refine ⟨h2.len.trans h1.len, fun k h => h2.mono k (h1.mono k h), fun k h => ?_, ⟨m1 ++ m2, by rw [r2, r1, List.append_assoc]⟩⟩
  rcases h2.new k h with h | h
  · rcases h1.new k h with h | h
    · exact .inl h
    · exact .inr (by rw [r2]; exact List.mem_append_left _ h)
  · exact .inr h
theorem farEnd_grew {nodes : List Nod} {id d : Int} {e : Int × Int} {st : List Int × List Nat} (hn : st.1.length = nodes.length) (hd : 0 ≤ d) : Grew nodes st (farEnd nodes id d e st) :=
  ⟨farEnd_len, fun _ h => farEnd_mono hn hd h, fun _ h => farEnd_new h, farEnd_row⟩
theorem farTie_grew {nodes : List Nod} {id d : Int} {t : Tie} {st : List Int × List Nat} (hn : st.1.length = nodes.length) (hd : 0 ≤ d) : Grew nodes st (farTie nodes id d st t) :=
  (farEnd_grew hn hd).trans (farEnd_grew (by rw [farEnd_len]; exact hn) hd)
theorem farTies_grew {nodes : List Nod} {id d : Int} (hd : 0 ≤ d) : ∀ (ts : List Tie) (st : List Int × List Nat), st.1.length = nodes.length → Grew nodes st (farTies nodes id d ts st)
  | [], st, _ => Grew.refl nodes st
  | t :: ts, st, hn => (farTie_grew (t := t) hn hd).trans (farTies_grew hd ts _ (by rw [(farTie_grew (t := t) hn hd).len]; exact hn))
theorem farTies_marks {nodes : List Nod} (hch : chain nodLt nodes = true) {id d : Int} (hd : 0 ≤ d) : ∀ (ts : List Tie) (st : List Int × List Nat), st.1.length = nodes.length → ∀ {t : Tie} {e : Int × Int} {b : Nat}, t ∈ ts → e ∈ tieEnds t → b < nodes.length → e.1 = id → e.2 = idAt nodes b → Mk (farTies nodes id d ts st) b
  | t0 :: ts, st, hn, t, e, b, ht, he, hb, h1, h2 => by
    have hn' : (farTie nodes id d st t0).1.length = nodes.length := by rw [(farTie_grew (t := t0) hn hd).len]; exact hn
    rcases List.mem_cons.1 ht with rfl | ht
    · refine (farTies_grew hd ts _ hn').mono b ?_
      simp only [tieEnds, List.mem_cons, List.not_mem_nil, or_false] at he
      have hn1 : (farEnd nodes id d (t.src, t.dst) st).1.length = nodes.length := by rw [farEnd_len]; exact hn
      rcases he with rfl | rfl
      · exact farEnd_mono hn1 hd (farEnd_marks hch hn hd hb h1 h2)
      · exact farEnd_marks hch hn1 hd hb h1 h2
    · exact farTies_marks hch hd ts _ hn' ht he hb h1 h2
theorem farTies_conn {g : Grf} (hch : chain nodLt g.nodes = true) {i r : Nat} (hr : r < g.nodes.length) {d : Int} (hcr : Conn g i r) : ∀ (ts : List Tie) (st : List Int × List Nat), (∀ t ∈ ts, t ∈ g.ties) →
    (∀ k, k < g.nodes.length → Mk st k → Conn g i k) → ∀ k, k < g.nodes.length → Mk (farTies g.nodes (idAt g.nodes r) d ts st) k → Conn g i k
  | [], st, _, hall => hall
  | t :: ts, st, hts, hall => by
    have ht := hts t (by simp)
    refine farTies_conn hch hr hcr ts _ (fun t' h' => hts t' (by simp [h'])) ?_
    exact farEnd_conn hch hr ht (by simp [tieEnds]) hcr (farEnd_conn hch hr ht (by simp [tieEnds]) hcr hall)

/-- At the head of the outer loop: what is marked hangs on i; what is marked and not in the row has its neighbours marked. -/
structure SInv (g : Grf) (i : Nat) (st : List Int × List Nat) : Prop where
  src : Mk st i
  sound : ∀ k, k < g.nodes.length → Mk st k → Conn g i k
  closed : ∀ k, k < g.nodes.length → Mk st k → k ∉ st.2 → ∀ b, adj g k b → Mk st b
theorem SInv.step {g : Grf} (hch : chain nodLt g.nodes = true) {i gk r : Nat} {ls : List Int} {rest : List Nat} (hO : OInv g.nodes.length gk (ls, r :: rest)) (h : SInv g i (ls, r :: rest)) :
    SInv g i ((farTies g.nodes (idAt g.nodes r) (ls.getD r 0) g.ties (ls, r :: rest)).1, (farTies g.nodes (idAt g.nodes r) (ls.getD r 0) g.ties (ls, r :: rest)).2.tail) := by
  obtain ⟨hr, hd⟩ := hO.mem r (by simp)
  have hG := farTies_grew (nodes := g.nodes) (id := idAt g.nodes r) hd g.ties (ls, r :: rest) hO.len
  have hC := farTies_conn hch hr (d := ls.getD r 0) (h.sound r hr hd) g.ties (ls, r :: rest) (fun _ h => h) h.sound
  have hM := fun {t : Tie} {e : Int × Int} {b : Nat} => farTies_marks (nodes := g.nodes) hch (id := idAt g.nodes r) hd g.ties (ls, r :: rest) hO.len (t := t) (e := e) (b := b)
  generalize farTies g.nodes (idAt g.nodes r) (ls.getD r 0) g.ties (ls, r :: rest) = st' at *
  obtain ⟨more, hmore⟩ := hG.row
  refine ⟨hG.mono i h.src, hC, fun k hk hm hn b hab => ?_⟩
  rw [hmore] at hn
  simp only [List.cons_append, List.tail_cons] at hn
  by_cases hkr : k = r
  · subst hkr
    obtain ⟨_, hb, t, ht, e, he, h1, h2⟩ := hab
    exact hM ht he hb h1 h2
  · have hk2 : k ∉ st'.2 := by rw [hmore]; simp [hkr]; simpa using hn
    rcases hG.new k hm with h1 | h1
    · refine hG.mono b (h.closed k hk h1 ?_ b hab)
      intro h2
      exact hk2 (by rw [hmore]; exact List.mem_append_left _ h2)
    · exact absurd h1 hk2
theorem farRun_reach (g : Grf) (hch : chain nodLt g.nodes = true) (i : Nat) : ∀ (gk : Nat) (st : List Int × List Nat), OInv g.nodes.length gk st → SInv g i st → ∀ k, k < g.nodes.length → (0 ≤ (farRun g gk st).getD k 0 ↔ Conn g i k)
  | 0, st, hO, h, k, hk => by
    have hrow : st.2 = [] := List.eq_nil_of_length_eq_zero (by have := hO.meas; omega)
    refine ⟨h.sound k hk, fun hc => ?_⟩
    show Mk st k
    induction hc with
    | refl => exact h.src
    | step h1 h2 ih => exact h.closed _ h2.1 (ih h2.1) (by rw [hrow]; simp) _ h2
  | gk + 1, st, hO, h, k, hk => by
    obtain ⟨ls, row⟩ := st
    unfold farRun
    cases row with
    | nil =>
      refine ⟨h.sound k hk, fun hc => ?_⟩
      show Mk (ls, []) k
      induction hc with
      | refl => exact h.src
      | step h1 h2 ih => exact h.closed _ h2.1 (ih h2.1) (by simp) _ h2
    | cons r rest => exact farRun_reach g hch i gk _ ((hO.enter rfl).ties g.nodes rfl _ g.ties).leave (h.step hch hO) k hk
theorem far_reach {g : Grf} (hch : chain nodLt g.nodes = true) {i : Nat} (hi : i < g.nodes.length) {k : Nat} (hk : k < g.nodes.length) : 0 ≤ (farI g i).getD k 0 ↔ Conn g i k := by
  refine farRun_reach g hch i _ _ (OInv.start hi) ⟨?_, ?_, ?_⟩ k hk
  · unfold Mk; rw [getD_set_self (by simpa using hi)]; omega
  · intro j hj h
    by_cases hij : i = j
    · subst hij; exact .refl
    · unfold Mk at h
      rw [getD_set_other hij] at h
      simp [List.getD, hj] at h
  · intro j hj h hn b _
    by_cases hij : i = j
    · subst hij; simp at hn
    · unfold Mk at h
      rw [getD_set_other hij] at h
      simp [List.getD, hj] at h
end Go.Proofs.YtfjnkidblalckaaGreatDoor

/- Plain: the search by breadth tells how far it is: a distance that steps by one from node to node is what it marks. -/
namespace Go.Proofs.YtfjnkidblalckaaGreatDoor

/-- A distance from node i. -/
structure Dist (g : Grf) (i : Nat) (D : Nat → Int) : Prop where
  zero : D i = 0
  nn : ∀ k, 0 ≤ D k
  up : ∀ a b, adj g a b → D b ≤ D a + 1
  pr : ∀ k, k < g.nodes.length → Conn g i k → k ≠ i → ∃ p, Conn g i p ∧ adj g p k ∧ D p + 1 = D k
theorem farEnd_dist {g : Grf} (hch : chain nodLt g.nodes = true) {i : Nat} {D : Nat → Int} (hD : Dist g i D) {r : Nat} (hr : r < g.nodes.length) (hcr : Conn g i r) {t : Tie} {e : Int × Int} (ht : t ∈ g.ties) (he : e ∈ tieEnds t) {st : List Int × List Nat}
    (hn : st.1.length = g.nodes.length) (h1 : ∀ k, k < g.nodes.length → Mk st k → st.1.getD k 0 = D k) (hlow : ∀ k, k < g.nodes.length → Conn g i k → D k ≤ D r → Mk st k) :
    (∀ k, k < g.nodes.length → Mk (farEnd g.nodes (idAt g.nodes r) (D r) e st) k → (farEnd g.nodes (idAt g.nodes r) (D r) e st).1.getD k 0 = D k) ∧ ∃ more, (farEnd g.nodes (idAt g.nodes r) (D r) e st).2 = st.2 ++ more ∧ ∀ b ∈ more, D b = D r + 1 := by
  unfold farEnd
  split
  · rename_i hc
    obtain ⟨hb, hbid⟩ := (fhas_iff hch (id := e.2) (k := fpos g.nodes e.2)).1 ⟨hc.2.1, rfl⟩
    have hadj : adj g r (fpos g.nodes e.2) := ⟨hr, hb, t, ht, e, he, hc.1, hbid.symm⟩
    have hcb : Conn g i (fpos g.nodes e.2) := .step hcr hadj
    have hup := hD.up _ _ hadj
    have hne : ¬ D (fpos g.nodes e.2) ≤ D r := fun h => by
      have := hlow _ hb hcb h
      unfold Mk at this
      have := hc.2.2
      omega
    have hDb : D (fpos g.nodes e.2) = D r + 1 := by omega
    refine ⟨fun k hk hm => ?_, [fpos g.nodes e.2], rfl, fun b hb2 => by simp at hb2; subst hb2; exact hDb⟩
    by_cases hk2 : fpos g.nodes e.2 = k
    · subst hk2
      show (st.1.set (fpos g.nodes e.2) (D r + 1)).getD (fpos g.nodes e.2) 0 = _
      rw [getD_set_self (by rw [hn]; exact hb), hDb]
    · show (st.1.set (fpos g.nodes e.2) (D r + 1)).getD k 0 = _
      rw [getD_set_other hk2]
      refine h1 k hk ?_
      unfold Mk at hm ⊢
      rwa [getD_set_other hk2] at hm
  · exact ⟨h1, [], by simp, fun b hb => by simp at hb⟩
theorem farTies_dist {g : Grf} (hch : chain nodLt g.nodes = true) {i : Nat} {D : Nat → Int} (hD : Dist g i D) {r : Nat} (hr : r < g.nodes.length) (hcr : Conn g i r) : ∀ (ts : List Tie) (st : List Int × List Nat), (∀ t ∈ ts, t ∈ g.ties) →
    st.1.length = g.nodes.length → (∀ k, k < g.nodes.length → Mk st k → st.1.getD k 0 = D k) → (∀ k, k < g.nodes.length → Conn g i k → D k ≤ D r → Mk st k) →
    (∀ k, k < g.nodes.length → Mk (farTies g.nodes (idAt g.nodes r) (D r) ts st) k → (farTies g.nodes (idAt g.nodes r) (D r) ts st).1.getD k 0 = D k) ∧ ∃ more, (farTies g.nodes (idAt g.nodes r) (D r) ts st).2 = st.2 ++ more ∧ ∀ b ∈ more, D b = D r + 1
  | [], st, _, _, h1, _ => ⟨h1, [], by simp [farTies], fun b hb => by simp at hb⟩
  | t :: ts, st, hts, hn, h1, hlow => by
    have ht := hts t (by simp)
    have hd := hD.nn r
    obtain ⟨a1, m1, a2, a3⟩ := farEnd_dist hch hD hr hcr ht (e := (t.src, t.dst)) (by simp [tieEnds]) hn h1 hlow
    have hn1 : (farEnd g.nodes (idAt g.nodes r) (D r) (t.src, t.dst) st).1.length = g.nodes.length := by rw [farEnd_len]; exact hn
    have hl1 : ∀ k, k < g.nodes.length → Conn g i k → D k ≤ D r → Mk (farEnd g.nodes (idAt g.nodes r) (D r) (t.src, t.dst) st) k := fun k hk hc hk2 => farEnd_mono hn hd (hlow k hk hc hk2)
    obtain ⟨b1, m2, b2, b3⟩ := farEnd_dist hch hD hr hcr ht (e := (t.dst, t.src)) (by simp [tieEnds]) hn1 a1 hl1
    have hn2 : (farTie g.nodes (idAt g.nodes r) (D r) st t).1.length = g.nodes.length := by rw [(farTie_grew (t := t) hn hd).len]; exact hn
    have hl2 : ∀ k, k < g.nodes.length → Conn g i k → D k ≤ D r → Mk (farTie g.nodes (idAt g.nodes r) (D r) st t) k := fun k hk hc hk2 => (farTie_grew (t := t) hn hd).mono k (hlow k hk hc hk2)
    obtain ⟨c1, m3, c2, c3⟩ := farTies_dist hch hD hr hcr ts (farTie g.nodes (idAt g.nodes r) (D r) st t) (fun t' h' => hts t' (by simp [h'])) hn2 b1 hl2
    refine ⟨c1, m1 ++ m2 ++ m3, ?_, fun b hb => ?_⟩
    · show (farTies g.nodes (idAt g.nodes r) (D r) ts (farTie g.nodes (idAt g.nodes r) (D r) st t)).2 = _
      rw [c2]
      show (farEnd g.nodes (idAt g.nodes r) (D r) (t.dst, t.src) (farEnd g.nodes (idAt g.nodes r) (D r) (t.src, t.dst) st)).2 ++ m3 = _
      rw [b2, a2]; simp
    · rcases List.mem_append.1 hb with hb | hb
      · rcases List.mem_append.1 hb with hb | hb
        · exact a3 b hb
        · exact b3 b hb
      · exact c3 b hb
/-- At the head of the outer loop. -/
structure DInv (g : Grf) (i : Nat) (D : Nat → Int) (st : List Int × List Nat) : Prop where
  v : ∀ k, k < g.nodes.length → Mk st k → st.1.getD k 0 = D k
  s : st.2.Pairwise fun a b => D a ≤ D b
  m : ∀ a ∈ st.2, ∀ b ∈ st.2, D b ≤ D a + 1
  l : ∀ r rest, st.2 = r :: rest → ∀ k, k < g.nodes.length → Conn g i k → D k ≤ D r → Mk st k
theorem DInv.step {g : Grf} (hch : chain nodLt g.nodes = true) {i gk r : Nat} {D : Nat → Int} (hD : Dist g i D) {ls : List Int} {rest : List Nat} (hO : OInv g.nodes.length gk (ls, r :: rest)) (hS : SInv g i (ls, r :: rest)) (h : DInv g i D (ls, r :: rest)) :
    DInv g i D ((farTies g.nodes (idAt g.nodes r) (ls.getD r 0) g.ties (ls, r :: rest)).1, (farTies g.nodes (idAt g.nodes r) (ls.getD r 0) g.ties (ls, r :: rest)).2.tail) := by
  obtain ⟨hr, hd⟩ := hO.mem r (by simp)
  have hcr := hS.sound r hr hd
  have hDr : ls.getD r 0 = D r := h.v r hr hd
  have hS2 := hS.step hch hO
  have hG := farTies_grew (nodes := g.nodes) (id := idAt g.nodes r) hd g.ties (ls, r :: rest) hO.len
  have hlow := h.l r rest rfl
  obtain ⟨c1, more, c2, c3⟩ := farTies_dist hch hD hr hcr g.ties (ls, r :: rest) (fun _ h => h) hO.len h.v hlow
  rw [← hDr] at c1 c2
  generalize farTies g.nodes (idAt g.nodes r) (ls.getD r 0) g.ties (ls, r :: rest) = st' at *
  have ht : st'.2.tail = rest ++ more := by rw [c2]; rfl
  have hs := h.s
  simp only [List.pairwise_cons] at hs
  have hlo : ∀ a ∈ rest ++ more, D r ≤ D a ∧ D a ≤ D r + 1 := fun a ha => by
    rcases List.mem_append.1 ha with ha | ha
    · exact ⟨hs.1 a ha, h.m r (by simp) a (by simp [ha])⟩
    · have := c3 a ha; omega
  have hpw : (rest ++ more).Pairwise fun a b => D a ≤ D b := by
    rw [List.pairwise_append]
    refine ⟨hs.2, ?_, fun a ha b hb => ?_⟩
    · rw [List.pairwise_iff_forall_sublist]
      intro a b hab
      have h1 := c3 a (hab.subset (by simp))
      have h2 := c3 b (hab.subset (by simp))
      omega
    · have h1 := (hlo a (List.mem_append_left _ ha)).2
      have h2 := c3 b hb
      omega
  refine ⟨c1, by show (st'.2.tail).Pairwise _; rw [ht]; exact hpw, ?_, ?_⟩
  · intro a ha b hb
    have ha : a ∈ st'.2.tail := ha
    have hb : b ∈ st'.2.tail := hb
    rw [ht] at ha hb
    have := hlo a ha; have := hlo b hb; omega
  · intro r' rest' hq k hk hc hkr
    have hq : st'.2.tail = r' :: rest' := hq
    rw [ht] at hq
    have hr' := hlo r' (by rw [hq]; simp)
    by_cases h1 : D k ≤ D r
    · exact hG.mono k (hlow k hk hc h1)
    · have hkv : D k = D r + 1 := by omega
      have hkr' : D r' = D r + 1 := by omega
      have hall : ∀ a ∈ rest ++ more, D r + 1 ≤ D a := fun a ha => by
        rw [hq] at ha hpw
        rcases List.mem_cons.1 ha with rfl | ha
        · omega
        · have := (List.pairwise_cons.1 hpw).1 a ha; omega
      have hki : k ≠ i := by
        rintro rfl
        have := hD.zero; have := hD.nn r; omega
      obtain ⟨p, hp1, hp2, hp3⟩ := hD.pr k hk hc hki
      have hpm : Mk st' p := hG.mono p (hlow p hp2.1 hp1 (by omega))
      refine hS2.closed p hp2.1 hpm (fun hin => ?_) k hp2
      have hin : p ∈ st'.2.tail := hin
      rw [ht] at hin
      have := hall p hin
      omega
theorem farRun_dist (g : Grf) (hch : chain nodLt g.nodes = true) {i : Nat} {D : Nat → Int} (hD : Dist g i D) : ∀ (gk : Nat) (st : List Int × List Nat), OInv g.nodes.length gk st → SInv g i st → DInv g i D st → ∀ k, k < g.nodes.length → 0 ≤ (farRun g gk st).getD k 0 → (farRun g gk st).getD k 0 = D k
  | 0, st, _, _, h, k, hk => h.v k hk
  | gk + 1, st, hO, hS, h, k, hk => by
    obtain ⟨ls, row⟩ := st
    unfold farRun
    cases row with
    | nil => exact h.v k hk
    | cons r rest => exact farRun_dist g hch hD gk _ ((hO.enter rfl).ties g.nodes rfl _ g.ties).leave (hS.step hch hO) (h.step hch hD hO hS) k hk
theorem start_sinv {g : Grf} {i : Nat} (hi : i < g.nodes.length) : SInv g i ((List.replicate g.nodes.length (-1)).set i 0, [i]) := by
  refine ⟨?_, ?_, ?_⟩
  · unfold Mk; rw [getD_set_self (by simpa using hi)]; omega
  · intro j hj h
    by_cases hij : i = j
    · subst hij; exact .refl
    · unfold Mk at h
      rw [getD_set_other hij] at h
      simp [List.getD, hj] at h
  · intro j hj h hn
    have hij : i ≠ j := by rintro rfl; simp at hn
    unfold Mk at h
    rw [getD_set_other hij] at h
    simp [List.getD, hj] at h
theorem far_dist {g : Grf} (hch : chain nodLt g.nodes = true) {i : Nat} (hi : i < g.nodes.length) {D : Nat → Int} (hD : Dist g i D) {k : Nat} (hk : k < g.nodes.length) (hc : Conn g i k) : (farI g i).getD k 0 = D k := by
  refine farRun_dist g hch hD _ _ (OInv.start hi) (start_sinv hi) ⟨?_, ?_, ?_, ?_⟩ k hk ((far_reach hch hi hk).2 hc)
  · intro j hj h
    by_cases hij : i = j
    · subst hij; rw [getD_set_self (by simpa using hi), hD.zero]
    · unfold Mk at h
      rw [getD_set_other hij] at h
      simp [List.getD, hj] at h
  · simp
  · intro a ha b hb
    simp at ha hb
    subst ha; subst hb
    omega
  · intro r rest hq j hj hcj hjr
    simp at hq
    obtain ⟨rfl, rfl⟩ := hq
    by_cases hij : i = j
    · subst hij; unfold Mk; rw [getD_set_self (by simpa using hi)]; omega
    · obtain ⟨p, _, _, hp⟩ := hD.pr j hj hcj (fun h => hij h.symm)
      have := hD.nn p; have := hD.zero
      omega
end Go.Proofs.YtfjnkidblalckaaGreatDoor
