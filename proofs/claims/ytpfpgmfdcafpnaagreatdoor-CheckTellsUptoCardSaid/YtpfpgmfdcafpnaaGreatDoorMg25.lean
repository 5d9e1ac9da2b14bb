/- Parts: CkC, CkO, CkH, Chk7. -/
import Derived.Test.YtpfpgmfdcafpnaaGreatDoorMg15
import Derived.Test.YtpfpgmfdcafpnaaGreatDoorMg19
import Derived.Test.YtpfpgmfdcafpnaaGreatDoorMg20
import Derived.Test.YtpfpgmfdcafpnaaGreatDoorMg21
import Derived.Test.YtpfpgmfdcafpnaaGreatDoorMg14
/- Contract: check.Count: how many nodes are of a kind or of its kin. No condition. -/
namespace Go.Proofs.YtpfpgmfdcafpnaaGreatDoor
open Go Go.RowKit



def kinN (s : Scm) (name : ByteArray) (n : Nod) : Bool := decide (0 ≤ kFind s.kinds n.kind) && isKinB s.kinds n.kind name
def countE (s : Scm) (g : Grf) (name : ByteArray) : Int := if readySG s g = 0 then (if kFind s.kinds name < 0 then 5 else 0) else readySG s g
def countR (s : Scm) (g : Grf) (name : ByteArray) : Int := if countE s g name = 0 then (g.nodes.countP (kinN s name) : Nat) else 0
theorem countE_bad {s : Scm} {g : Grf} {name : ByteArray} (h : readySG s g ≠ 0) : countE s g name = readySG s g ∧ countR s g name = 0 := by
  have h1 : countE s g name = readySG s g := by unfold countE; rw [if_neg h]
  exact ⟨h1, by unfold countR; rw [if_neg (by rw [h1]; exact h)]⟩
theorem countE_none {s : Scm} {g : Grf} {name : ByteArray} (h : readySG s g = 0) (hn : kFind s.kinds name < 0) : countE s g name = 5 ∧ countR s g name = 0 := by
  have h1 : countE s g name = 5 := by unfold countE; rw [if_pos h, if_pos hn]
  exact ⟨h1, by unfold countR; rw [if_neg (by rw [h1]; omega)]⟩
theorem countE_ok {s : Scm} {g : Grf} {name : ByteArray} (h : readySG s g = 0) (hn : ¬ kFind s.kinds name < 0) : countE s g name = 0 ∧ countR s g name = (g.nodes.countP (kinN s name) : Nat) := by
  have h1 : countE s g name = 0 := by unfold countE; rw [if_pos h, if_neg hn]
  exact ⟨h1, by unfold countR; rw [if_pos h1]⟩
set_option maxRecDepth 100000 in
set_option maxHeartbeats 8000000 in
theorem count_any (s : Scm) (g : Grf) (name : ByteArray) (vk vb vn vt : Value) (w : World) (hs : ScmR w vk vb s) (hg : GrfR w vn vt g) :
    Calls Tryz.prog 12 #[.agg #[vk, vb], .agg #[vn, vt], .string name] w fun e w' => e = .returned (.tuple #[.int .i64 (countR s g name), errV (countE s g name)]) ∧ Below w.heap.size w w' := by
  obtain ⟨A1, c1, rfl, _, _⟩ := hs.1.form
  obtain ⟨A2, c2, rfl, _, _⟩ := hs.2.form
  obtain ⟨A3, c3, rfl, _, _⟩ := hg.1.form
  obtain ⟨A4, c4, rfl, _, _⟩ := hg.2.form
  obtain ⟨W0, hW0⟩ : ∃ W0, W0 = (w.alloc (.cells #[.slice A1 s.kinds.length c1, .slice A2 s.bonds.length c2] 25)).alloc (.cells #[.slice A3 g.nodes.length c3, .slice A4 g.ties.length c4] 29) := ⟨_, rfl⟩
  have hb0 : Below w.heap.size w W0 := by rw [hW0]; exact ((Below.refl _ _).alloc (Nat.le_refl _) _).alloc (by simp) _
  have g0 : W0.heap[w.heap.size]? = some (.cells #[.slice A1 s.kinds.length c1, .slice A2 s.bonds.length c2] 25 (0, 0)) := by
    rw [hW0, Below.heap_alloc _ _ _ (by simp)]; exact heap_alloc_new _ _
  have g1 : W0.heap[w.heap.size + 1]? = some (.cells #[.slice A3 g.nodes.length c3, .slice A4 g.ties.length c4] 29 (0, 0)) := by
    have := heap_alloc_new (w.alloc (.cells #[.slice A1 s.kinds.length c1, .slice A2 s.bonds.length c2] 25)) (.cells #[.slice A3 g.nodes.length c3, .slice A4 g.ties.length c4] 29); rw [hW0]; simpa using this
  have hW0' := hW0.symm
  have HG0 := Lib.hid g0
  have HG1 := Lib.hid g1
  have x0 := block_cell g0 0
  have x1 := block_cell g0 1
  have y0 := block_cell g1 0
  have y1 := block_cell g1 1
  have hw0 := hb0.size
  have hx := cready_any s g _ _ _ _ W0 (hs.below hb0) (hg.below hb0)
  have HS := Lib.hid (hs.below hb0)
  have HG := Lib.hid (hg.below hb0)
  have HBAD : Hid (readySG s g ≠ 0 → countE s g name = readySG s g ∧ countR s g name = 0) := countE_bad
  have HNON : Hid (readySG s g = 0 → kFind s.kinds name < 0 → countE s g name = 5 ∧ countR s g name = 0) := countE_none
  have HOK : Hid (readySG s g = 0 → ¬ kFind s.kinds name < 0 → countE s g name = 0 ∧ countR s g name = (g.nodes.countP (kinN s name) : Nat)) := countE_ok
  have HKF : Hid (∀ W, Below W0.heap.size W0 W → Calls Tryz.prog 27 #[.slice A1 s.kinds.length c1, .string name] W fun e w' => e = .returned (.int .i64 (kFind s.kinds name)) ∧ Below W.heap.size W w') := fun W h => kFind_any s.kinds name _ W (HS.out.below h).1
  have HRD : Hid (readySG s g = 0 → CkOk s ∧ g.nodes.length ≤ 60) := fun h => by
    unfold readySG at h
    split at h
    · rename_i h1
      exact ⟨(scm_right h1).1.ck, (grf_ok h).1⟩
    · rename_i h1; exact absurd h h1
  generalize readySG s g = z at *
  generalize countE s g name = ce at *
  generalize countR s g name = cr at *
  generalize kFind s.kinds name = kf at *
  clear hs hg g0 g1 hW0
  have X0 := Lib.hid x0
  have Y0 := Lib.hid y0
  go_enter Tryz.func12, Tryz.ntmps12
  go_wp2_with fail
  clear hW0'
  refine hx.mono ?_
  clear hx x0 x1 y0 y1
  rintro e w1 ⟨rfl, hb1⟩
  have hB1 := hb0.trans (hb1.mono hw0)
  by_cases hz : z = 0
  case neg =>
    have HE := Lib.hid (HBAD.out hz)
    have HEV : Hid (errV z = .iface 76 (.int .i64 z)) := errV_some hz
    rw [errV_some hz]
    clear hz HBAD HNON HOK
    go_wp2_with fail
    go_ret2
    exact ⟨by rw [HE.out.1, HE.out.2, HEV.out]; rfl, hB1⟩
  rw [errV_zero hz]
  have x0 := cell_below hb1 X0.out
  have hx := HKF.out w1 hb1
  go_wp2_with fail
  refine hx.mono ?_
  clear hx x0
  rintro e w2 ⟨rfl, hb2⟩
  have hB2 := hB1.trans (hb2.mono hB1.size)
  by_cases hk : kf < 0
  · have HE := Lib.hid (HNON.out hz hk)
    have hkd : decide (kf < 0) = true := decide_eq_true hk
    have HEV : Hid (errV 5 = .iface 76 (.int .i64 5)) := errV_some (by omega)
    clear hz hk HBAD HNON HOK
    go_wp2_with fail
    go_ret2
    exact ⟨by rw [HE.out.1, HE.out.2, HEV.out]; rfl, hB2⟩
  have HE := Lib.hid (HOK.out hz (by omega))
  have hkd : decide (kf < 0) = false := decide_eq_false hk
  obtain ⟨hok, hnl⟩ := HRD.out hz
  have hb12 : Below W0.heap.size W0 w2 := hb1.trans (hb2.mono hb1.size)
  have y0 := cell_below hb12 Y0.out
  clear hz HRD HBAD HNON HOK hk hb1 hb2 hB1
  go_wp2_with fail
  go_loopw [9, 27] (fun n i wr => ∃ k : Nat, k ≤ g.nodes.length ∧ i = .int .i64 k ∧ n = .int .i64 ((g.nodes.take k).countP (kinN s name) : Nat) ∧ Below w2.heap.size w2 wr) (fun _ i _ => g.nodes.length - (intOf i).toNat)
  case atStart => exact ⟨0, Nat.zero_le _, rfl, by simp, Below.refl _ _⟩
  case round =>
    clear y0
    obtain ⟨k, hk, rfl, rfl, hbr⟩ := hrel
    have hWr : Below W0.heap.size W0 wr := hb12.trans (hbr.mono hb12.size)
    have hcl : (g.nodes.take k).countP (kinN s name) ≤ k := Nat.le_trans List.countP_le_length (by rw [List.length_take]; omega)
    by_cases hlt : k < g.nodes.length
    · obtain ⟨n, hd⟩ : ∃ d, g.nodes[k]? = some d := ⟨_, List.getElem?_eq_getElem hlt⟩
      have hlt' : (k : Int) < (g.nodes.length : Int) := by omega
      obtain ⟨gb, o, rfl, u, hid, hkd, hpr, q0, q1, q2⟩ := nod_at HG.out.1 hd
      obtain ⟨Au, cu, rfl, _, _⟩ := hpr.form
      have q0 := cell_below hWr q0
      have q1 := cell_below hWr q1
      have q2 := cell_below hWr q2
      have hbk := heap_alloc_new wr (.cells #[.int .i64 n.id, .string n.kind, .slice Au n.props.length cu] 33)
      have ha1 : Below wr.heap.size wr (wr.alloc (.cells #[.int .i64 n.id, .string n.kind, .slice Au n.props.length cu] 33)) := (Below.refl _ _).alloc (Nat.le_refl _) _
      have hST : Hid ((g.nodes.take (k + 1)).countP (kinN s name) = (g.nodes.take k).countP (kinN s name) + if kinN s name n then 1 else 0) := by unfold Hid; rw [take_snocF hd, List.countP_append]; simp
      have HKN : Hid (kinN s name n = (decide (0 ≤ kFind s.kinds n.kind) && isKinB s.kinds n.kind name)) := rfl
      generalize kinN s name n = kb at *
      have hm1 : wr.heap.size ≤ (wr.alloc (.cells #[.int .i64 n.id, .string n.kind, .slice Au n.props.length cu] 33)).heap.size := ha1.size
      clear hd hpr hid
      go_upto_region 10 with fail
      generalize wr.alloc (.cells #[.int .i64 n.id, .string n.kind, .slice Au n.props.length cu] 33) = wa at *
      have hWa := hWr.trans (ha1.mono hWr.size)
      have hba := hbr.trans (ha1.mono hbr.size)
      have x0 := cell_below hWa X0.out
      have z1 := block_cell hbk 1
      have HK : Hid (∀ W, Below wa.heap.size wa W → Calls Tryz.prog 27 #[.slice A1 s.kinds.length c1, .string n.kind] W fun e w' => e = .returned (.int .i64 (kFind s.kinds n.kind)) ∧ Below W.heap.size W w') := fun W h => kFind_any s.kinds n.kind _ W (HS.out.below (hWa.trans (h.mono hWa.size))).1
      have HI : Hid (∀ W, Below wa.heap.size wa W → Calls Tryz.prog 28 #[.slice A1 s.kinds.length c1, .string n.kind, .string name] W fun e w' => e = .returned (.bool (isKinB s.kinds n.kind name)) ∧ Below W.heap.size W w') := fun W h =>
        isKin_any s.kinds n.kind name _ W (HS.out.below (hWa.trans (h.mono hWa.size))).1 hkd (by have := hok.l; omega) hok.o
      generalize kFind s.kinds n.kind = z at *
      generalize isKinB s.kinds n.kind name = ik at *
      generalize (g.nodes.take k).countP (kinN s name) = c at *
      clear q0 q1 q2 hbk ha1 hWr hbr hkd
      by_cases hz : z < 0
      · have hz1 : decide ((0 : Int) ≤ z) = false := decide_eq_false (by omega)
        have HN : Hid ((g.nodes.take (k + 1)).countP (kinN s name) = c) := by unfold Hid; rw [hST.out, HKN.out, hz1]; simp
        clear HI hST HKN
        have hk1 := HK.out wa (Below.refl _ _)
        clear HK
        go_wp2_with fail
        refine hk1.mono ?_
        clear hk1
        rintro e w3 ⟨rfl, hb3⟩
        have hbX := hba.trans (hb3.mono hba.size)
        go_wp2_with fail
        go_roundw
        case rel => exact ⟨k + 1, by omega, by go_num, by rw [HN.out], hbX⟩
        case measure => simp [intOf]; omega
      · have hz1 : decide ((0 : Int) ≤ z) = true := decide_eq_true (by omega)
        have hz2 : (0 : Int) ≤ z := by omega
        clear hz
        have hk1 := HK.out wa (Below.refl _ _)
        go_wp2_with fail
        refine hk1.mono ?_
        clear hk1
        rintro e w3 ⟨rfl, hb3⟩
        have x0 := cell_below hb3 x0
        have z1 := cell_below hb3 z1
        have hk1 := HI.out w3 hb3
        clear HK HI
        go_wp2_with fail
        refine hk1.mono ?_
        clear hk1
        rintro e w4 ⟨rfl, hb4⟩
        have hb24 := hb3.trans (hb4.mono hb3.size)
        all_goals
          have hbX := hba.trans (hb24.mono hba.size)
          clear hb3 hb4 hb24 x0 z1
          cases ik with
          | false =>
            have HN : Hid ((g.nodes.take (k + 1)).countP (kinN s name) = c) := by unfold Hid; rw [hST.out, HKN.out, hz1]; simp
            clear hST HKN
            go_wp2_with fail
            go_roundw
            case rel => exact ⟨k + 1, by omega, by go_num, by rw [HN.out], hbX⟩
            case measure => simp [intOf]; omega
          | true =>
            have HN : Hid ((g.nodes.take (k + 1)).countP (kinN s name) = c + 1) := by unfold Hid; rw [hST.out, HKN.out, hz1]; simp
            have hw1 : IntKind.i64.wrap ((c : Int) + 1) = (c : Int) + 1 := IntWalk.i64_in _ (by omega)
            clear hST HKN
            go_wp2_with fail
            go_roundw
            case rel => exact ⟨k + 1, by omega, by go_num, by rw [HN.out]; go_num, hbX⟩
            case measure => simp [intOf]; omega
    · obtain rfl : k = g.nodes.length := by omega
      rw [List.take_length]
      clear hcl
      go_wp2_with fail
      go_ret2
      exact ⟨by rw [HE.out.1, HE.out.2]; rfl, hB2.trans (hbr.mono hB2.size)⟩
end Go.Proofs.YtpfpgmfdcafpnaaGreatDoor

/- Contract: kinref2.Of: the nodes of a kind or of its kin, as the document has them. No condition. -/
namespace Go.Proofs.YtpfpgmfdcafpnaaGreatDoor
open Go Go.RowKit



def ofN (s : Scm) (name : ByteArray) (l : List Nod) : List Int := (l.filter (kinN s name)).map (·.id)
theorem ofN_len (s : Scm) (name : ByteArray) (l : List Nod) : (ofN s name l).length = l.countP (kinN s name) := by
  unfold ofN; rw [List.length_map, List.countP_eq_length_filter]
set_option maxRecDepth 100000 in
set_option maxHeartbeats 8000000 in
theorem rof_any (s : Scm) (g : Grf) (name : ByteArray) (vk vb vn vt : Value) (w : World) (hs : ScmR w vk vb s) (hg : GrfR w vn vt g) (hr : Right s.kinds) (hnl : g.nodes.length ≤ 60) :
    Calls Tryz.prog 11 #[.agg #[vk, vb], .agg #[vn, vt], .string name] w fun e w' => ∃ A c, e = .returned (.slice A (g.nodes.countP (kinN s name)) c) ∧ Below w.heap.size w w' := by
  obtain ⟨i0, ei, ez, ez1, ez2⟩ := info_parts eint_info
  obtain ⟨A1, c1, rfl, _, _⟩ := hs.1.form
  obtain ⟨A2, c2, rfl, _, _⟩ := hs.2.form
  obtain ⟨A3, c3, rfl, _, _⟩ := hg.1.form
  obtain ⟨A4, c4, rfl, _, _⟩ := hg.2.form
  obtain ⟨W0, hW0⟩ : ∃ W0, W0 = (w.alloc (.cells #[.slice A1 s.kinds.length c1, .slice A2 s.bonds.length c2] 25)).alloc (.cells #[.slice A3 g.nodes.length c3, .slice A4 g.ties.length c4] 29) := ⟨_, rfl⟩
  have hb0 : Below w.heap.size w W0 := by rw [hW0]; exact ((Below.refl _ _).alloc (Nat.le_refl _) _).alloc (by simp) _
  have g0 : W0.heap[w.heap.size]? = some (.cells #[.slice A1 s.kinds.length c1, .slice A2 s.bonds.length c2] 25 (0, 0)) := by
    rw [hW0, Below.heap_alloc _ _ _ (by simp)]; exact heap_alloc_new _ _
  have g1 : W0.heap[w.heap.size + 1]? = some (.cells #[.slice A3 g.nodes.length c3, .slice A4 g.ties.length c4] 29 (0, 0)) := by
    have := heap_alloc_new (w.alloc (.cells #[.slice A1 s.kinds.length c1, .slice A2 s.bonds.length c2] 25)) (.cells #[.slice A3 g.nodes.length c3, .slice A4 g.ties.length c4] 29); rw [hW0]; simpa using this
  have hW0' := hW0.symm
  have HG0 := Lib.hid g0
  have HG1 := Lib.hid g1
  have x0 := block_cell g0 0
  have x1 := block_cell g0 1
  have y0 := block_cell g1 0
  have y1 := block_cell g1 1
  have hw0 := hb0.size
  have HS := Lib.hid (hs.below hb0)
  have HG := Lib.hid (hg.below hb0)
  have X0 := Lib.hid x0
  have Y0 := Lib.hid y0
  clear hs hg g0 g1 hW0
  go_enter Tryz.func11, Tryz.ntmps11
  go_wp2_with fail
  clear hW0'
  go_loopw [7, 8] (fun ov i wr => ∃ k : Nat, k ≤ g.nodes.length ∧ i = .int .i64 k ∧ Below W0.heap.size W0 wr ∧ Own wr W0.heap.size 3 1 ov (ofN s name (g.nodes.take k)).length ((ofN s name (g.nodes.take k)).map (Value.int .i64))) (fun _ i _ => g.nodes.length - (intOf i).toNat)
  case atStart => exact ⟨0, Nat.zero_le _, rfl, Below.refl _ _, Own.nil _ _ _ _⟩
  case round =>
    clear x0 x1 y0 y1
    obtain ⟨k, hk, rfl, hbr, hor⟩ := hrel
    have hcl : (ofN s name (g.nodes.take k)).length ≤ k := by rw [ofN_len]; exact Nat.le_trans List.countP_le_length (by rw [List.length_take]; omega)
    have x0 := cell_below hbr X0.out
    have y0 := cell_below hbr Y0.out
    by_cases hlt : k < g.nodes.length
    · obtain ⟨n, hd⟩ : ∃ d, g.nodes[k]? = some d := ⟨_, List.getElem?_eq_getElem hlt⟩
      have hlt' : (k : Int) < (g.nodes.length : Int) := by omega
      have hk0 : (0 : Int) ≤ (k : Int) := by omega
      obtain ⟨gb, o, rfl, u, hid, hkd, hpr, q0, q1, q2⟩ := nod_at (HG.out.below hbr).1 hd
      have hST : Hid (ofN s name (g.nodes.take (k + 1)) = ofN s name (g.nodes.take k) ++ if kinN s name n then [n.id] else []) := by
        unfold Hid ofN; rw [take_snocF hd, List.filter_append, List.map_append]; cases hq : kinN s name n <;> simp [hq]
      have HKN : Hid (kinN s name n = (decide (0 ≤ kFind s.kinds n.kind) && isKinB s.kinds n.kind name)) := rfl
      have HK : Hid (∀ W, Below wr.heap.size wr W → Calls Tryz.prog 10 #[.slice A1 s.kinds.length c1, .string n.kind] W fun e w' => e = .returned (.int .i64 (kFind s.kinds n.kind)) ∧ Below W.heap.size W w') := fun W h => (rkind_any s.kinds n.kind _ W (HS.out.below (hbr.trans (h.mono hbr.size))).1).mono fun e w' hh => ⟨hh.1, by rw [← hh.2]; exact Below.refl _ _⟩
      have HI : Hid (0 ≤ kFind s.kinds n.kind → ∀ W, Below wr.heap.size wr W → Calls Tryz.prog 20 #[.slice A1 s.kinds.length c1, .string n.kind, .string name] W fun e w' => e = .returned (.bool (isKinB s.kinds n.kind name)) ∧ Below W.heap.size W w') := fun hz W h =>
        ris_any s.kinds n.kind name _ W (HS.out.below (hbr.trans (h.mono hbr.size))).1 hr.wf hz hr.len
      generalize kinN s name n = kb at *
      generalize ofN s name (g.nodes.take k) = acc at *
      have HOR := Lib.hid hor
      obtain ⟨Ar, cr, rfl, _, _⟩ := hor.form
      have hbd : Below wr.heap.size wr wr.drew := (Below.refl _ _).drew
      have hkeep := And.intro (cell_below hbd x0) (And.intro (cell_below hbd y0) (cell_below hbd q1))
      generalize kFind s.kinds n.kind = z at *
      generalize isKinB s.kinds n.kind name = ik at *
      have HK0 := HK.out wr.drew hbd
      have HQ0 := Lib.hid q0
      clear hd hpr q2 hid hkd hor
      by_cases hz : z < 0
      · have hz1 : decide ((0 : Int) ≤ z) = false := decide_eq_false (by omega)
        have HN : Hid (ofN s name (g.nodes.take (k + 1)) = acc) := by unfold Hid; rw [hST.out, HKN.out, hz1]; simp
        clear HI HK0 hkeep hST HKN q0
        go_wp2_with fail
        refine wp_mid_g 8 _ rfl rfl (by kernel_rfl) ?_
        simp only [List.take_succ_cons, List.take_zero, List.drop_succ_cons, List.drop_zero]
        repeat (go_big_quiet_step (fail))
        refine wpQuiet_nil ?_
        refine ⟨by simp [Region.wanted, yielded, go_sem], ?_⟩
        intro _ hw'
        obtain ⟨nq, hw''⟩ := hw'
        subst hw''
        intro K hK
        have hk1 := HK.out (wr.drewN nq) (below_drewN (Below.refl _ _) nq)
        go_wp2_with fail
        refine hk1.mono ?_
        clear hk1
        rintro e w3 ⟨rfl, hb3⟩
        have hb23 := (below_drewN (Below.refl wr.heap.size wr) nq).trans hb3
        refine hK _ _ ?_
        repeat (go_big_quiet_step (fail))
        refine wpQuiet_nil ?_
        intro _ hw'
        obtain ⟨nq2, hw''⟩ := hw'
        subst hw''
        clear hK
        have hbq := below_drewN hb23 nq2
        generalize w3.drewN nq2 = W3 at *
        have hbX := hbr.trans (hbq.mono hbr.size)
        have HO3 := Lib.hid (HOR.out.below hbq)
        go_wp2_with fail
        go_roundw
        case rel => exact ⟨k + 1, by omega, by go_num, hbX, by rw [HN.out]; exact HO3.out⟩
        case measure => simp [intOf]; omega
      · have hz1 : decide ((0 : Int) ≤ z) = true := decide_eq_true (by omega)
        have hz2 : (0 : Int) ≤ z := by omega
        have HI := Lib.hid (HI.out hz2)
        clear hz q0
        go_wp2_with fail
        go_region_held3 (fun w' => w'.cell? ⟨w.heap.size, 0, none⟩ = some (.slice A1 s.kinds.length c1) ∧ w'.cell? ⟨w.heap.size + 1, 0, none⟩ = some (.slice (some ⟨gb, o, none⟩) g.nodes.length c3) ∧ w'.cell? ⟨gb, o + k * 3 + 1, none⟩ = some (.string n.kind))
          (first
            | exact hkeep
            | go_keep)
          (first
            | (go_at_call 10
               refine HK0.mono ?_
               rintro e w3 ⟨rfl, hb3⟩
               have hb23 := hbd.trans (hb3.mono hbd.size)
               have hkeep := And.intro (cell_below hb23 x0) (And.intro (cell_below hb23 y0) (cell_below hb23 q1))
               have HI0 := HI.out w3 hb23)
            | (go_at_call 20
               refine HI0.mono ?_
               rintro e w4 ⟨rfl, hb4⟩
               have hb24 := hb23.trans (hb4.mono hb23.size)
               have hkeep := And.intro (cell_below hb24 x0) (And.intro (cell_below hb24 y0) (cell_below hb24 q1))))
        all_goals
          have hbR := hbr.trans (hb24.mono hbr.size)
          have HOR := Lib.hid (HOR.out.below hb24)
          have y0 := cell_below hb24 y0
          have q0 := cell_below hb24 HQ0.out
          clear HI HK HK0 HI0 hkeep hb3 hb4 hb23 hb24 x0 q1 HQ0 hbr hbd
          cases ik with
          | false =>
            have HN : Hid (ofN s name (g.nodes.take (k + 1)) = acc) := by unfold Hid; rw [hST.out, HKN.out, hz1]; simp
            clear hST HKN
            go_wp2_with fail
            go_roundw
            case rel => exact ⟨k + 1, by omega, by go_num, hbR, by rw [HN.out]; exact HOR.out⟩
            case measure => simp [intOf]; omega
          | true =>
            have HN : Hid (ofN s name (g.nodes.take (k + 1)) = acc ++ [n.id]) := by unfold Hid; rw [hST.out, HKN.out, hz1]; simp
            clear hST HKN
            go_wp2_with (at_builtin; refine wpList_append_q _ rfl (.tmp 38) (.tmp 45) _ rfl W0.heap.size 3 i0 (.int .i64 0) 1 8 Tryz.underlying46 ei ez ez1 ez2 rfl (by decide) (.slice Ar acc.length cr) acc.length (acc.map (Value.int .i64)) rfl (HOR.out.alloc _) (some ⟨w4.heap.size, 0, none⟩) 1 1 [.int .i64 n.id] rfl rfl (fun _ => ⟨_, rfl, by simpa using cell_one_new w4 (.int .i64 n.id) 3⟩) (by simp [Value.oneCell']) (by unfold maxLen; omega) (by omega) (by have := hbR.size; simp; omega) ?_; intro v7 w7 hown7 hg7 hat7)
            have hb7 : Below W0.heap.size W0 w7 := (hbR.alloc hbR.size _).grown hg7 (by have := hbR.size; simp; omega) (fun kk hkk => (HOR.out.lt kk hkk).1)
            have ho7 : Own w7 W0.heap.size 3 1 v7 (acc ++ [n.id]).length ((acc ++ [n.id]).map (Value.int .i64)) := by simpa using hown7
            clear hg7 hat7 hown7
            go_roundw
            case rel => exact ⟨k + 1, by omega, by go_num, hb7, by rw [HN.out]; exact ho7⟩
            case measure => simp [intOf]; omega
    · obtain rfl : k = g.nodes.length := by omega
      rw [List.take_length, ofN_len] at hor
      obtain ⟨Ar, cr, rfl, _, _⟩ := hor.form
      clear hcl hor
      go_wp2_with fail
      go_ret
      exact ⟨_, _, rfl, hb0.trans (hbr.mono hw0)⟩
end Go.Proofs.YtpfpgmfdcafpnaaGreatDoor

/- Contract: kinsame.Faults: whether two lists of faults are the same. No condition. -/
namespace Go.Proofs.YtpfpgmfdcafpnaaGreatDoor
open Go Go.RowKit



instance : DecidableEq Flt := fun x y => decidable_of_iff (x.what = y.what ∧ x.node = y.node ∧ x.name = y.name) ⟨fun h => by cases x; cases y; simp only at h; obtain ⟨h1, h2, h3⟩ := h; subst h1; subst h2; subst h3; rfl, fun h => by rw [h]; exact ⟨rfl, rfl, rfl⟩⟩
theorem fltq_guard (op : BinOp) (a b : Operand) (xs ys : Array Value) (w : World) : (eqGuard op 66 a b (.agg xs) (.agg ys)).run Tryz.prog w = .ok () w := run_eqGuard_agg w op 66 a b xs ys (by kernel_rfl)
theorem fltq_same (d : Nat) (x y : Flt) (w : World) : (Op.equalIn (d + 2) 66 (.agg #[.int .i64 x.what, .int .i64 x.node, .string x.name]) (.agg #[.int .i64 y.what, .int .i64 y.node, .string y.name])).run Tryz.prog w = .ok (decide (x = y)) w := by
  have hS : Tryz.prog.underlying 66 = some (.struct (Tryz.prog.fieldsOf 66)) := by kernel_rfl
  have hp : Tryz.prog.stoodInHeld 66 = false := by kernel_rfl
  have e1 := Tryz.underlying9
  have e2 := Tryz.underlying3
  rw [run_equalIn_agg w (d + 1) 66 _ _ hS hp]
  simp only [Program.fieldsOf, Tryz.underlying66]
  go_simp
  simp only [bytes_eq]
  cases x; cases y
  simp only [Flt.mk.injEq]
  rename_i a b c a' b' c'
  by_cases h1 : a = a' <;> by_cases h2 : b = b' <;> by_cases h3 : c = c' <;> simp [h1, h2, h3]
theorem fltq_neq (x y : Flt) (w : World) : (binOp .neq 66 (.agg #[.int .i64 x.what, .int .i64 x.node, .string x.name]) (.agg #[.int .i64 y.what, .int .i64 y.node, .string y.name])).run Tryz.prog w = .ok (.bool (!decide (x = y))) w := by
  rw [run_neq_struct, show (10000 : Nat) = 9998 + 2 from rfl, fltq_same]; rfl
theorem fltq_at {w : World} {A : Option Addr} {k n c : Nat} {l : List Flt} (h : Sl fltL w (.slice A n c) l) {d : Flt} (hk : l[k]? = some d) :
    ∃ b o, A = some ⟨b, o, none⟩ ∧ d.ok ∧ w.cell? ⟨b, o + k * 3, none⟩ = some (.int .i64 d.what) ∧ w.cell? ⟨b, o + k * 3 + 1, none⟩ = some (.int .i64 d.node) ∧ w.cell? ⟨b, o + k * 3 + 2, none⟩ = some (.string d.name) := by
  obtain ⟨b, o, hA, hall⟩ := h.all (len_pos hk)
  obtain ⟨cs, ⟨rfl, ok⟩, hx⟩ := hall k d hk
  exact ⟨b, o, hA, ok, hx 0 _ rfl, hx 1 _ rfl, hx 2 _ rfl⟩
set_option maxHeartbeats 1000000 in
theorem sfaults_any_q (a b : List Flt) (va vb : Value) (w : World) (ha : Sl fltL w va a) (hb : Sl fltL w vb b) : Calls Tryz.prog 8 #[va, vb] w fun e w' => e = .returned (.bool (decide (a = b))) ∧ ∃ m, w' = w.drewN m := by
  obtain ⟨A, c, rfl, _, hcm⟩ := ha.form
  obtain ⟨B, d, rfl, _, hdm⟩ := hb.form
  unfold maxLen at hcm hdm
  by_cases hl : a.length = b.length
  case neg =>
    have HE : Hid (decide (a = b) = false) := decide_eq_false fun e => hl (by rw [e])
    have hl' : decide ((a.length : Int) = (b.length : Int)) = false := decide_eq_false (by omega)
    have hl2 : ((a.length : Int) == (b.length : Int)) = false := by rw [beq_eq_false_iff_ne]; omega
    clear ha hb hl
    go_enter Tryz.func8, Tryz.ntmps8
    go_wp2_with fail
    go_ret
    exact ⟨by rw [HE.out]; rfl, 0, rfl⟩
  have HL := Lib.hid hl
  have hlb : a.length ≤ b.length := by omega
  rw [← hl]
  clear hl
  go_enter Tryz.func8, Tryz.ntmps8
  go_wp2_with fail
  go_loopw [5] (fun i wr => ∃ k : Nat, k ≤ a.length ∧ i = .int .i64 k ∧ Below w.heap.size w wr ∧ Hid (∃ m, wr = w.drewN m) ∧ Hid (∀ j x y, j < k → a[j]? = some x → b[j]? = some y → x = y)) (fun i _ => a.length - (intOf i).toNat)
  case atStart => exact ⟨0, Nat.zero_le _, rfl, Below.refl _ _, ⟨0, rfl⟩, fun j x y hj => absurd hj (Nat.not_lt_zero _)⟩
  case round =>
    obtain ⟨k, hk, rfl, hbr, HM, HA⟩ := hrel
    by_cases hlt : k < a.length
    · obtain ⟨x, hx⟩ : ∃ d, a[k]? = some d := ⟨_, List.getElem?_eq_getElem hlt⟩
      obtain ⟨y, hy⟩ : ∃ d, b[k]? = some d := ⟨_, List.getElem?_eq_getElem (by omega)⟩
      have hlt' : (k : Int) < (a.length : Int) := by omega
      obtain ⟨b1, o1, rfl, _, x0, x1, x2⟩ := fltq_at (ha.below hbr) hx
      obtain ⟨b2, o2, rfl, _, y0, y1, y2⟩ := fltq_at (hb.below hbr) hy
      have hneq := fltq_neq x y
      have hgd := fltq_guard
      have HX := Lib.hid hx
      have HY := Lib.hid hy
      clear hx hy
      by_cases hq : x = y
      · have HS : Hid (∀ j x y, j < k + 1 → a[j]? = some x → b[j]? = some y → x = y) := fun j p q hj hp hq2 => by
          by_cases hjk : j = k
          · subst hjk
            have e1 := HX.out.symm.trans hp
            have e2 := HY.out.symm.trans hq2
            injection e1 with e1; injection e2 with e2
            rw [← e1, ← e2]; exact hq
          · exact HA.out j p q (by omega) hp hq2
        rw [decide_eq_true hq] at hneq
        clear ha hb hq
        go_wp2_with fail
        go_quiet (fail)
        go_wp2_with fail
        go_roundw
        case rel => exact ⟨k + 1, by omega, by go_num, below_drewN hbr _, drewN_step HM.out nq, HS⟩
        case measure => simp [intOf]; omega
      · have HE : Hid (decide (a = b) = false) := decide_eq_false fun e => by
          have e1 := HX.out
          rw [e, HY.out] at e1
          injection e1 with e1
          exact hq e1.symm
        rw [decide_eq_false hq] at hneq
        clear ha hb hq
        go_wp2_with fail
        go_quiet (fail)
        go_wp2_with fail
        go_ret
        exact ⟨by rw [HE.out]; rfl, drewN_step HM.out nq⟩
    · obtain rfl : k = a.length := by omega
      have HE : Hid (decide (a = b) = true) := decide_eq_true (lists_eq HL.out HA.out)
      clear ha hb
      go_wp2_with fail
      go_ret
      exact ⟨by rw [HE.out]; rfl, HM.out⟩
theorem sfaults_any (a b : List Flt) (va vb : Value) (w : World) (ha : Sl fltL w va a) (hb : Sl fltL w vb b) : Calls Tryz.prog 8 #[va, vb] w fun e w' => e = .returned (.bool (decide (a = b))) ∧ Below w.heap.size w w' :=
  (sfaults_any_q a b va vb w ha hb).mono fun _ _ ⟨h, m, hm⟩ => ⟨h, by rw [hm]; exact below_drewN (Below.refl _ _) m⟩
end Go.Proofs.YtpfpgmfdcafpnaaGreatDoor

/- Contracts: check.Faults, check.Conforms, check.NodeFaults. No condition. -/
namespace Go.Proofs.YtpfpgmfdcafpnaaGreatDoor
open Go Go.RowKit

def faultsR (s : Scm) (g : Grf) : List Flt := if readySG s g = 0 then ofF s g else []
def confR (s : Scm) (g : Grf) : Bool := decide (readySG s g = 0) && decide ((faultsR s g).length = 0)
theorem readySG_zero {s : Scm} {g : Grf} (h : readySG s g = 0) : (scmE s).2 = 0 ∧ grfE g = 0 := by
  unfold readySG at h
  split at h
  · rename_i h0; exact ⟨h0, h⟩
  · rename_i h0; exact absurd h h0
def RetF (l : List Flt) (err : Int) (w : World) (e : Ending) (w' : World) : Prop := ∃ u, e = .returned (.tuple #[u, errV err]) ∧ Sl fltL w' u l ∧ Below w.heap.size w w'

set_option maxHeartbeats 1000000 in
theorem faults_any (s : Scm) (g : Grf) (vk vb vn vt : Value) (w : World) (hs : ScmR w vk vb s) (hg : GrfR w vn vt g) :
    Calls Tryz.prog 6 #[.agg #[vk, vb], .agg #[vn, vt]] w (RetF (faultsR s g) (readySG s g) w) := by
  obtain ⟨A1, c1, rfl, _, _⟩ := hs.1.form
  obtain ⟨A2, c2, rfl, _, _⟩ := hs.2.form
  obtain ⟨A3, c3, rfl, _, _⟩ := hg.1.form
  obtain ⟨A4, c4, rfl, _, _⟩ := hg.2.form
  obtain ⟨W0, hW0⟩ : ∃ W0, W0 = (w.alloc (.cells #[.slice A1 s.kinds.length c1, .slice A2 s.bonds.length c2] 25)).alloc (.cells #[.slice A3 g.nodes.length c3, .slice A4 g.ties.length c4] 29) := ⟨_, rfl⟩
  have hb0 : Below w.heap.size w W0 := by rw [hW0]; exact ((Below.refl _ _).alloc (Nat.le_refl _) _).alloc (by simp) _
  have g0 : W0.heap[w.heap.size]? = some (.cells #[.slice A1 s.kinds.length c1, .slice A2 s.bonds.length c2] 25 (0, 0)) := by
    rw [hW0, Below.heap_alloc _ _ _ (by simp)]; exact heap_alloc_new _ _
  have g1 : W0.heap[w.heap.size + 1]? = some (.cells #[.slice A3 g.nodes.length c3, .slice A4 g.ties.length c4] 29 (0, 0)) := by
    have := heap_alloc_new (w.alloc (.cells #[.slice A1 s.kinds.length c1, .slice A2 s.bonds.length c2] 25)) (.cells #[.slice A3 g.nodes.length c3, .slice A4 g.ties.length c4] 29); rw [hW0]; simpa using this
  have hW0' := hW0.symm
  have HG0 := Lib.hid g0
  have HG1 := Lib.hid g1
  have x0 := block_cell g0 0
  have x1 := block_cell g0 1
  have y0 := block_cell g1 0
  have y1 := block_cell g1 1
  have hw0 := hb0.size
  have hrd := cready_any s g _ _ _ _ W0 (hs.below hb0) (hg.below hb0)
  have HS := Lib.hid (hs.below hb0)
  have HG := Lib.hid (hg.below hb0)
  have HFR : Hid (faultsR s g = if readySG s g = 0 then ofF s g else []) := rfl
  have HZ : Hid (readySG s g = 0 → (scmE s).2 = 0 ∧ grfE g = 0) := readySG_zero
  generalize readySG s g = z at *
  clear hs hg g0 g1 hW0
  go_enter Tryz.func6, Tryz.ntmps6
  go_wp2_with fail
  refine hrd.mono ?_
  clear hrd hW0'
  rintro e w1 ⟨rfl, hb1⟩
  have hB1 := hb0.trans (hb1.mono hw0)
  by_cases he : z = 0
  case neg =>
    have HE : Hid (errV z = .iface 76 (.int .i64 z) ∧ faultsR s g = []) := ⟨errV_some he, by rw [HFR.out, if_neg he]⟩
    rw [errV_some he]
    clear he HFR HZ
    go_wp2_with fail
    go_ret2
    exact ⟨.slice none 0 0, by rw [HE.out.1]; rfl, by rw [HE.out.2]; exact Sl.nil 0 (Nat.zero_le _) none, hB1⟩
  have HE : Hid (errV z = .nilIface ∧ faultsR s g = ofF s g) := ⟨errV_zero he, by rw [HFR.out, if_pos he]⟩
  obtain ⟨z1, z2⟩ := HZ.out he
  have hof := of_any s g _ _ _ _ w1 (HS.out.below hb1) (HG.out.below hb1) z1 z2
  have x0 := cell_below hb1 x0
  have x1 := cell_below hb1 x1
  have y0 := cell_below hb1 y0
  have y1 := cell_below hb1 y1
  rw [errV_zero he]
  clear he HFR HZ z1 z2 hb1
  go_wp2_with fail
  refine hof.mono ?_
  clear hof
  rintro e w2 ⟨u, rfl, hu, hb2⟩
  obtain ⟨A5, c5, rfl, _, _⟩ := hu.form
  have HU := Lib.hid hu
  clear hu
  generalize ofF s g = fl at *
  go_wp2_with fail
  go_ret2
  exact ⟨_, by rw [HE.out.1]; rfl, by rw [HE.out.2]; exact HU.out, hB1.trans (hb2.mono hB1.size)⟩
set_option maxHeartbeats 1000000 in
theorem conforms_any (s : Scm) (g : Grf) (vk vb vn vt : Value) (w : World) (hs : ScmR w vk vb s) (hg : GrfR w vn vt g) :
    Calls Tryz.prog 9 #[.agg #[vk, vb], .agg #[vn, vt]] w fun e w' => e = .returned (.tuple #[.bool (confR s g), errV (readySG s g)]) ∧ Below w.heap.size w w' := by
  obtain ⟨A1, c1, rfl, _, _⟩ := hs.1.form
  obtain ⟨A2, c2, rfl, _, _⟩ := hs.2.form
  obtain ⟨A3, c3, rfl, _, _⟩ := hg.1.form
  obtain ⟨A4, c4, rfl, _, _⟩ := hg.2.form
  obtain ⟨W0, hW0⟩ : ∃ W0, W0 = (w.alloc (.cells #[.slice A1 s.kinds.length c1, .slice A2 s.bonds.length c2] 25)).alloc (.cells #[.slice A3 g.nodes.length c3, .slice A4 g.ties.length c4] 29) := ⟨_, rfl⟩
  have hb0 : Below w.heap.size w W0 := by rw [hW0]; exact ((Below.refl _ _).alloc (Nat.le_refl _) _).alloc (by simp) _
  have g0 : W0.heap[w.heap.size]? = some (.cells #[.slice A1 s.kinds.length c1, .slice A2 s.bonds.length c2] 25 (0, 0)) := by
    rw [hW0, Below.heap_alloc _ _ _ (by simp)]; exact heap_alloc_new _ _
  have g1 : W0.heap[w.heap.size + 1]? = some (.cells #[.slice A3 g.nodes.length c3, .slice A4 g.ties.length c4] 29 (0, 0)) := by
    have := heap_alloc_new (w.alloc (.cells #[.slice A1 s.kinds.length c1, .slice A2 s.bonds.length c2] 25)) (.cells #[.slice A3 g.nodes.length c3, .slice A4 g.ties.length c4] 29); rw [hW0]; simpa using this
  have hW0' := hW0.symm
  have HG0 := Lib.hid g0
  have HG1 := Lib.hid g1
  have x0 := block_cell g0 0
  have x1 := block_cell g0 1
  have y0 := block_cell g1 0
  have y1 := block_cell g1 1
  have hw0 := hb0.size
  have hrd := faults_any s g _ _ _ _ W0 (hs.below hb0) (hg.below hb0)
  have HC : Hid (confR s g = (decide (readySG s g = 0) && decide ((faultsR s g).length = 0))) := rfl
  generalize readySG s g = z at *
  generalize faultsR s g = fl at *
  clear hs hg g0 g1 hW0
  go_enter Tryz.func9, Tryz.ntmps9
  go_wp2_with fail
  refine hrd.mono ?_
  clear hrd hW0'
  rintro e w1 ⟨u, rfl, hu, hb1⟩
  obtain ⟨A5, c5, rfl, _, _⟩ := hu.form
  have hB1 := hb0.trans (hb1.mono hw0)
  clear hu
  by_cases he : z = 0
  case neg =>
    have HE : Hid (errV z = .iface 76 (.int .i64 z) ∧ confR s g = false) := ⟨errV_some he, by rw [HC.out, decide_eq_false he]; rfl⟩
    rw [errV_some he]
    clear he HC
    go_wp2_with fail
    go_ret2
    exact ⟨by rw [HE.out.1, HE.out.2]; rfl, hB1⟩
  rw [errV_zero he]
  by_cases hl : fl.length = 0
  · have HE : Hid (errV z = .nilIface ∧ confR s g = true) := ⟨errV_zero he, by rw [HC.out, decide_eq_true he, decide_eq_true hl]; rfl⟩
    have hq : ((fl.length : Int) == 0) = true := by rw [beq_iff_eq]; omega
    clear he HC hl
    generalize fl.length = nl at *
    go_wp2_with fail
    go_ret2
    exact ⟨by rw [HE.out.1, HE.out.2]; rfl, hB1⟩
  · have HE : Hid (errV z = .nilIface ∧ confR s g = false) := ⟨errV_zero he, by rw [HC.out, decide_eq_true he, decide_eq_false hl]; rfl⟩
    have hq : ((fl.length : Int) == 0) = false := by rw [beq_eq_false_iff_ne]; omega
    clear he HC hl
    generalize fl.length = nl at *
    go_wp2_with fail
    go_ret2
    exact ⟨by rw [HE.out.1, HE.out.2]; rfl, hB1⟩

/-! ### A node by itself -/
def nodeFE (s : Scm) (n : Nod) : Int := if (scmE s).2 = 0 then nodE n else (scmE s).2
def nodeFR (s : Scm) (n : Nod) : List Flt := if nodeFE s n = 0 then aloneF s n else []
theorem nodE_rec {n : Nod} (h5 : nodE n = 0) : n.props.length ≤ 8 ∧ chain prpLt n.props = true := by
  unfold nodE at h5
  split at h5
  · simp at h5
  · split at h5
    · obtain ⟨a, _, c⟩ := rec_ok h5
      exact ⟨a, c⟩
    · rename_i h6; exact absurd h5 h6
set_option maxRecDepth 100000 in
set_option maxHeartbeats 2000000 in
theorem nodeFaults_any (s : Scm) (n : Nod) (vk vb u : Value) (w : World) (hs : ScmR w vk vb s) (hid : I64 n.id) (hkd : Sm n.kind) (hu : Sl prpL w u n.props) :
    Calls Tryz.prog 16 #[.agg #[vk, vb], .agg #[.int .i64 n.id, .string n.kind, u]] w (RetF (nodeFR s n) (nodeFE s n) w) := by
  obtain ⟨A1, c1, rfl, _, _⟩ := hs.1.form
  obtain ⟨A2, c2, rfl, _, _⟩ := hs.2.form
  obtain ⟨A3, c3, rfl, _, _⟩ := hu.form
  obtain ⟨W0, hW0⟩ : ∃ W0, W0 = (w.alloc (.cells #[.slice A1 s.kinds.length c1, .slice A2 s.bonds.length c2] 25)).alloc (.cells #[.int .i64 n.id, .string n.kind, .slice A3 n.props.length c3] 33) := ⟨_, rfl⟩
  have hb0 : Below w.heap.size w W0 := by rw [hW0]; exact ((Below.refl _ _).alloc (Nat.le_refl _) _).alloc (by simp) _
  have g0 : W0.heap[w.heap.size]? = some (.cells #[.slice A1 s.kinds.length c1, .slice A2 s.bonds.length c2] 25 (0, 0)) := by
    rw [hW0, Below.heap_alloc _ _ _ (by simp)]; exact heap_alloc_new _ _
  have g1 : W0.heap[w.heap.size + 1]? = some (.cells #[.int .i64 n.id, .string n.kind, .slice A3 n.props.length c3] 33 (0, 0)) := by
    have := heap_alloc_new (w.alloc (.cells #[.slice A1 s.kinds.length c1, .slice A2 s.bonds.length c2] 25)) (.cells #[.int .i64 n.id, .string n.kind, .slice A3 n.props.length c3] 33); rw [hW0]; simpa using this
  have hW0' := hW0.symm
  have HG0 := Lib.hid g0
  have HG1 := Lib.hid g1
  have x0 := block_cell g0 0
  have x1 := block_cell g0 1
  have hw0 := hb0.size
  have hr1 := sright_any s _ _ _ (hs.below hb0)
  have HS := Lib.hid (hs.below hb0)
  have HU := Lib.hid (hu.below hb0)
  have HFE : Hid (nodeFE s n = if (scmE s).2 = 0 then nodE n else (scmE s).2) := rfl
  have HFR : Hid (nodeFR s n = if nodeFE s n = 0 then aloneF s n else []) := rfl
  have HR : Hid ((scmE s).2 = 0 → Right s.kinds ∧ s.bonds.length ≤ 12) := scm_right
  generalize nodeFE s n = ze at *
  generalize (scmE s).2 = z at *
  clear hs hu g0 g1 hW0
  go_enter Tryz.func16, Tryz.ntmps16
  go_wp2_with fail
  refine hr1.mono ?_
  clear hr1 hW0'
  rintro e w1 ⟨rfl, hb1⟩
  have hB1 := hb0.trans (hb1.mono hw0)
  by_cases he : z = 0
  case neg =>
    have h1 : ze = z := by rw [HFE.out, if_neg he]
    have HE : Hid (errV ze = .iface 76 (.int .i64 z) ∧ nodeFR s n = []) := ⟨by rw [h1]; exact errV_some he, by rw [HFR.out, if_neg (by rw [h1]; exact he)]⟩
    rw [errV_some he]
    clear he HFR HFE h1
    go_wp2_with fail
    go_ret2
    exact ⟨.slice none 0 0, by rw [HE.out.1]; rfl, by rw [HE.out.2]; exact Sl.nil 0 (Nat.zero_le _) none, hB1⟩
  obtain ⟨hright, hbl⟩ := HR.out he
  have HFE1 : Hid (ze = nodE n) := by unfold Hid; rw [HFE.out, if_pos he]
  have hq1 := (hb1.block _ (Array.getElem?_eq_some_iff.1 HG1.out).1).trans HG1.out
  have y0 := block_cell hq1 0
  have y1 := block_cell hq1 1
  have y2 := block_cell hq1 2
  have hr2 := ofNode_any n _ w1 hkd (HU.out.below hb1)
  have HNR : Hid (nodE n = 0 → n.props.length ≤ 8 ∧ chain prpLt n.props = true) := nodE_rec
  rw [errV_zero he]
  generalize nodE n = z2 at *
  clear he HFE HR hq1 x0 x1
  go_wp2_with fail
  refine hr2.mono ?_
  clear hr2 y0 y1 y2
  rintro e w2 ⟨rfl, hb2⟩
  have hB2 := hB1.trans (hb2.mono hB1.size)
  by_cases he : z2 = 0
  case neg =>
    have h1 : ze = z2 := HFE1.out
    have HE : Hid (errV ze = .iface 76 (.int .i64 z2) ∧ nodeFR s n = []) := ⟨by rw [h1]; exact errV_some he, by rw [HFR.out, if_neg (by rw [h1]; exact he)]⟩
    rw [errV_some he]
    clear he HFR HFE1 h1
    go_wp2_with fail
    go_ret2
    exact ⟨.slice none 0 0, by rw [HE.out.1]; rfl, by rw [HE.out.2]; exact Sl.nil 0 (Nat.zero_le _) none, hB2⟩
  have HE : Hid (errV ze = .nilIface ∧ nodeFR s n = aloneF s n) := by
    have h1 : ze = 0 := HFE1.out.trans he
    exact ⟨errV_zero h1, by rw [HFR.out, if_pos h1]⟩
  obtain ⟨hp8, hpc⟩ := HNR.out he
  have hb12 := hb1.trans (hb2.mono hb1.size)
  have hq0 := (hb12.block _ (Array.getElem?_eq_some_iff.1 HG0.out).1).trans HG0.out
  have hq1 := (hb12.block _ (Array.getElem?_eq_some_iff.1 HG1.out).1).trans HG1.out
  have x0 := block_cell hq0 0
  have x1 := block_cell hq0 1
  have hok := hright.ck
  have hk8 := kfl_len hright n.kind
  rw [errV_zero he]
  clear he HFE1 HFR HNR
  go_upto_region 8 with fail
  have ha2 : Below w2.heap.size w2 (w2.alloc (.cells #[.slice A1 s.kinds.length c1, .slice A2 s.bonds.length c2, .slice none 0 0, .slice none 0 0, .slice none 0 0, .map none] 94)) := (Below.refl _ _).alloc (Nat.le_refl _) _
  have hcq := heap_alloc_new w2 (.cells #[.slice A1 s.kinds.length c1, .slice A2 s.bonds.length c2, .slice none 0 0, .slice none 0 0, .slice none 0 0, .map none] 94)
  have hck : Ck w2.heap.size (w2.alloc (.cells #[.slice A1 s.kinds.length c1, .slice A2 s.bonds.length c2, .slice none 0 0, .slice none 0 0, .slice none 0 0, .map none] 94)) w2.heap.size (.slice A1 s.kinds.length c1) (.slice A2 s.bonds.length c2) (.slice none 0 0) (.slice none 0 0) (.map none) (.slice none 0 0) [] :=
    ⟨hcq, Nat.le_refl _, Own.nil _ _ _ _, by simp⟩
  have hq1 := (ha2.block _ (Array.getElem?_eq_some_iff.1 hq1).1).trans hq1
  generalize w2.alloc (.cells #[.slice A1 s.kinds.length c1, .slice A2 s.bonds.length c2, .slice none 0 0, .slice none 0 0, .slice none 0 0, .map none] 94) = w3 at *
  have hal := alone_any w2.heap.size w2.heap.size _ _ (.slice none 0 0) (.slice none 0 0) (.map none) _ [] s n _ w2 w3 rfl ha2 hck (HS.out.below hb12) hok (HU.out.below hb12) hid hkd hpc (by omega) (by omega) (by simp)
  have y0 := block_cell hq1 0
  have y1 := block_cell hq1 1
  have y2 := block_cell hq1 2
  clear hck hcq hq0 hq1 x0 x1
  go_wp2_with fail
  refine hal.mono ?_
  clear hal y0 y1 y2
  rintro e w4 ⟨v4, rfl, _, _, ht⟩
  obtain ⟨out4, hc4⟩ := ht.c
  rw [List.nil_append] at hc4
  have m4 := block_cell hc4.q 4
  generalize aloneF s n = fl at *
  obtain ⟨A5, c5, rfl, _, _⟩ := hc4.o.form
  have HC := Lib.hid hc4
  have hb34 : Below w2.heap.size w2 w4 := ha2.trans ht.b
  clear ht hc4
  go_wp2_with fail
  go_ret2
  exact ⟨_, by rw [HE.out.1]; rfl, by rw [HE.out.2]; exact Own.flat Flt.enc_len HC.out.k HC.out.o, hB2.trans (hb34.mono hB2.size)⟩
end Go.Proofs.YtpfpgmfdcafpnaaGreatDoor
