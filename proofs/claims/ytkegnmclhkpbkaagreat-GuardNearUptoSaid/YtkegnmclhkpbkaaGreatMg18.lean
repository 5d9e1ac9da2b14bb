/- Parts: SchB, Chk5, Chk6, Chk7, OwnS. -/
import Derived.Test.YtkegnmclhkpbkaaGreatMg16
import Derived.Test.YtkegnmclhkpbkaaGreatMg05
import Derived.Test.YtkegnmclhkpbkaaGreatMg03
import Derived.Test.YtkegnmclhkpbkaaGreatMg17
import Derived.Deep.RegionHeld3
import Derived.Test.YtkegnmclhkpbkaaGreatMg08
/- Contracts: schema.Check, schema.Right. -/
namespace Go.Proofs.YtkegnmclhkpbkaaGreat
open Go Go.RowKit

theorem bndsE_step {ks : List Knd} {l : List Bnd} {k : Nat} {d : Bnd} {E : ByteArray × Int} (hd : l[k]? = some d) (h : E = bndsE ks (l.take k) (l.drop k)) :
    E = if bndE ks (l.take k) d = 0 then bndsE ks (l.take (k + 1)) (l.drop (k + 1)) else (d.name, bndE ks (l.take k) d) := by
  rw [h, drop_cons hd, bndsE, take_step hd]
def SCheckR (s : Scm) (w : World) (e : Ending) (w' : World) : Prop := e = .returned (.tuple #[.string (scmE s).1, errV (scmE s).2]) ∧ Below w.heap.size w w'
set_option maxRecDepth 100000 in
set_option maxHeartbeats 4000000 in
theorem scheck_any (s : Scm) (vk vb : Value) (w : World) (hv : ScmR w vk vb s) : Calls Tryz.prog 70 #[.agg #[vk, vb]] w (SCheckR s w) := by
  obtain ⟨Ak, ck, rfl, _, _⟩ := hv.1.form
  obtain ⟨Ab, cb, rfl, hlc, hcm⟩ := hv.2.form
  have hb0 : Below w.heap.size w (w.alloc (.cells #[.slice Ak s.kinds.length ck, .slice Ab s.bonds.length cb] 25)) := (Below.refl _ _).alloc (Nat.le_refl _) _
  obtain ⟨x0, x1⟩ := cell_box2 w (.slice Ak s.kinds.length ck) (.slice Ab s.bonds.length cb) 25
  have HV := Lib.hid (hv.below hb0)
  have hck := kcheck_any s.kinds _ _ (hv.1.below hb0)
  have HE0 : Hid (scmE s = if (checkE s.kinds).2 = 0 then (if 12 < s.bonds.length then (.empty, 4) else bndsE s.kinds [] s.bonds) else checkE s.kinds) := rfl
  have hw0 := hb0.size
  clear hv
  go_enter Tryz.func70, Tryz.ntmps70
  go_wp2_with fail
  generalize w.alloc (.cells #[.slice Ak s.kinds.length ck, .slice Ab s.bonds.length cb] 25) = w0 at *
  refine hck.mono ?_
  clear hck
  rintro e w1 ⟨rfl, hb1⟩
  have hB1 := hb0.trans (hb1.mono hw0)
  have x0 := cell_below hb1 x0
  have x1 := cell_below hb1 x1
  have HV1 := Lib.hid (HV.out.below hb1)
  have hw1 := hB1.size
  generalize hce : checkE s.kinds = ce at *
  by_cases he : ce.2 = 0
  case neg =>
    have HF : Hid (scmE s = ce) := by unfold Hid; rw [HE0.out, if_neg he]
    have HF2 : Hid (errV ce.2 = .iface 69 (.int .i64 ce.2)) := errV_some he
    rw [errV_some he]
    clear he HE0 hce
    go_wp2_with fail
    go_ret2
    exact ⟨by rw [HF.out, HF2.out]; rfl, hB1⟩
  have HE1 : Hid (scmE s = if 12 < s.bonds.length then (.empty, 4) else bndsE s.kinds [] s.bonds) := by unfold Hid; rw [HE0.out, if_pos he]
  rw [errV_zero he]
  clear he HE0 hce
  by_cases h12 : 12 < s.bonds.length
  · have HF : Hid (scmE s = (.empty, 4)) := by unfold Hid; rw [HE1.out, if_pos h12]
    have h12' : (12 : Int) < (s.bonds.length : Int) := by omega
    clear HE1
    go_wp2_with fail
    go_ret2
    exact ⟨by rw [HF.out]; rfl, hB1⟩
  have HE2 : Hid (scmE s = bndsE s.kinds [] s.bonds) := by unfold Hid; rw [HE1.out, if_neg h12]
  have h12' : (s.bonds.length : Int) ≤ 12 := by omega
  clear HE1 h12
  go_wp2_with fail
  go_loopw [27] (fun i wr => ∃ k : Nat, k ≤ s.bonds.length ∧ i = .int .i64 k ∧ Below w1.heap.size w1 wr ∧ Hid (scmE s = bndsE s.kinds (s.bonds.take k) (s.bonds.drop k))) (fun i _ => s.bonds.length - (intOf i).toNat)
  case atStart => exact ⟨0, Nat.zero_le _, rfl, Below.refl _ _, HE2.out⟩
  case round =>
    obtain ⟨k, hk, rfl, hb, HR⟩ := hrel
    have y0 := cell_below hb x0
    have y1 := cell_below hb x1
    have hBr := hB1.trans (hb.mono hw1)
    clear x0 x1
    by_cases hlt : k < s.bonds.length
    · obtain ⟨d, hd⟩ : ∃ d, s.bonds[k]? = some d := ⟨_, List.getElem?_eq_getElem hlt⟩
      have hlt' : (k : Int) < (s.bonds.length : Int) := by omega
      have HV2 := Lib.hid (HV1.out.below hb)
      obtain ⟨b, o, rfl, hok, c0, c1, c2, c3, c4⟩ := bnd_at HV2.out.2 hd
      have hbx : Below wr.heap.size wr (wr.alloc (.cells #[.string d.name, .string d.src, .string d.dst, .int .i64 d.mn, .int .i64 d.mx] 109)) := (Below.refl _ _).alloc (Nat.le_refl _) _
      obtain ⟨z0, _, _, _, _⟩ := cell_box5 wr (.string d.name) (.string d.src) (.string d.dst) (.int .i64 d.mn) (.int .i64 d.mx) 109
      have v0 := cell_below hbx y0
      have v1 := cell_below hbx y1
      have hbd := bond_any s k d _ _ _ (HV2.out.below hbx) hd
      have HS := Lib.hid (bndsE_step hd HR.out)
      generalize bndE s.kinds (s.bonds.take k) d = q at *
      clear hd HR
      go_wp2_with fail
      refine hbd.mono ?_
      clear hbd
      rintro e w3 ⟨rfl, hb3⟩
      have hB3 := hb.trans ((hbx.trans (hb3.mono hbx.size)).mono hb.size)
      have z0 := cell_below hb3 z0
      by_cases hq : q = 0
      · have HS2 : Hid (scmE s = bndsE s.kinds (s.bonds.take (k + 1)) (s.bonds.drop (k + 1))) := by unfold Hid; rw [HS.out, if_pos hq]
        rw [errV_zero hq]
        clear hq HS v0 v1 c0 c1 c2 c3 c4
        go_wp2_with fail
        go_roundw
        case rel => exact ⟨k + 1, by omega, by go_num, hB3, HS2⟩
        case measure => simp [intOf]; omega
      · have HF : Hid (scmE s = (d.name, q)) := by unfold Hid; rw [HS.out, if_neg hq]
        have HF2 : Hid (errV q = .iface 69 (.int .i64 q)) := errV_some hq
        rw [errV_some hq]
        clear hq HS v0 v1 c0 c1 c2 c3 c4
        go_wp2_with fail
        go_ret2
        exact ⟨by rw [HF.out, HF2.out]; rfl, hB1.trans (hB3.mono hw1)⟩
    · obtain rfl : k = s.bonds.length := by omega
      have HF : Hid (scmE s = (.empty, 0)) := by unfold Hid; rw [HR.out, List.drop_length]; rfl
      clear HR
      go_wp2_with fail
      go_ret2
      exact ⟨by rw [HF.out]; rfl, hBr⟩
theorem sright_any (s : Scm) (vk vb : Value) (w : World) (hv : ScmR w vk vb s) : Calls Tryz.prog 46 #[.agg #[vk, vb]] w fun e w' => e = .returned (errV (scmE s).2) ∧ Below w.heap.size w w' := by
  have hb0 : Below w.heap.size w (w.alloc (.cells #[vk, vb] 25)) := (Below.refl _ _).alloc (Nat.le_refl _) _
  have h1 := scheck_any s vk vb _ (hv.below hb0)
  obtain ⟨z, hz⟩ : ∃ z, z = errV (scmE s).2 := ⟨_, rfl⟩
  have HZ := Lib.hid hz
  obtain ⟨A, c, rfl, _, _⟩ := hv.1.form
  obtain ⟨A', c', rfl, _, _⟩ := hv.2.form
  clear hv
  go_enter Tryz.func46, Tryz.ntmps46
  go_wp2_with fail
  refine h1.mono ?_
  clear h1
  rintro e w2 ⟨he, hb2⟩
  rw [← HZ.out] at he
  subst he
  clear hz
  go_wp2_with fail
  go_ret
  exact ⟨by rw [← HZ.out]; rfl, hb0.trans (hb2.mono (by simp))⟩
end Go.Proofs.YtkegnmclhkpbkaaGreat

/- Contract: what is wrong with a schema and a graph by themselves. No condition. -/
namespace Go.Proofs.YtkegnmclhkpbkaaGreat
open Go Go.RowKit

def readySG (s : Scm) (g : Grf) : Int := if (scmE s).2 = 0 then grfE g else (scmE s).2
theorem cready_any (s : Scm) (g : Grf) (vk vb vn vt : Value) (w : World) (hs : ScmR w vk vb s) (hg : GrfR w vn vt g) :
    Calls Tryz.prog 22 #[.agg #[vk, vb], .agg #[vn, vt]] w fun e w' => e = .returned (errV (readySG s g)) ∧ Below w.heap.size w w' := by
  obtain ⟨A1, c1, rfl, _, _⟩ := hs.1.form
  obtain ⟨A2, c2, rfl, _, _⟩ := hs.2.form
  obtain ⟨A3, c3, rfl, _, _⟩ := hg.1.form
  obtain ⟨A4, c4, rfl, _, _⟩ := hg.2.form
  obtain ⟨W0, hW0⟩ : ∃ W0, W0 = (w.alloc (.cells #[.slice A1 s.kinds.length c1, .slice A2 s.bonds.length c2] 25)).alloc (.cells #[.slice A3 g.nodes.length c3, .slice A4 g.ties.length c4] 29) := ⟨_, rfl⟩
  have hb0 : Below w.heap.size w W0 := by rw [hW0]; exact ((Below.refl _ _).alloc (Nat.le_refl _) _).alloc (by simp) _
  have g0 : W0.heap[w.heap.size]? = some (.cells #[.slice A1 s.kinds.length c1, .slice A2 s.bonds.length c2] 25 (0, 0)) := by
    rw [hW0, Below.heap_alloc _ _ _ (by simp)]; exact heap_alloc_new _ _
  have g1 : W0.heap[w.heap.size + 1]? = some (.cells #[.slice A3 g.nodes.length c3, .slice A4 g.ties.length c4] 29 (0, 0)) := by
    have := heap_alloc_new (w.alloc (.cells #[.slice A1 s.kinds.length c1, .slice A2 s.bonds.length c2] 25)) (.cells #[.slice A3 g.nodes.length c3, .slice A4 g.ties.length c4] 29); rw [hW0]; simpa using this
  have hW0' := hW0.symm
  have hr1 := sright_any s _ _ _ (hs.below hb0)
  have HG := Lib.hid hg
  have HBE : Hid (readySG s g = if (scmE s).2 = 0 then grfE g else (scmE s).2) := rfl
  have HQ := Lib.hid g1
  have x0 := block_cell g0 0
  have x1 := block_cell g0 1
  have hw0 := hb0.size
  generalize hz : (scmE s).2 = z at *
  generalize hbe : readySG s g = be at *
  clear hs hg g0 g1 hz hbe hW0
  go_enter Tryz.func22, Tryz.ntmps22
  go_wp2_with fail
  refine hr1.mono ?_
  clear hr1 hW0'
  rintro e w1 ⟨rfl, hb1⟩
  have hB1 := hb0.trans (hb1.mono hw0)
  have g2 := (hb1.block _ (Array.getElem?_eq_some_iff.1 HQ.out).1).trans HQ.out
  by_cases he : z = 0
  case neg =>
    have HE : Hid (errV be = .iface 69 (.int .i64 z)) := by unfold Hid; rw [HBE.out, if_neg he]; exact errV_some he
    rw [errV_some he]
    clear he
    go_wp2_with fail
    go_ret
    exact ⟨by rw [HE.out]; rfl, hB1⟩
  have HE : Hid (be = grfE g) := by unfold Hid; rw [HBE.out, if_pos he]
  have hr2 := grfCheck_any g _ _ w1 (HG.out.below hB1)
  have y0 := block_cell g2 0
  have y1 := block_cell g2 1
  rw [errV_zero he]
  generalize grfE g = z2 at *
  clear he g2 x0 x1
  go_wp2_with fail
  refine hr2.mono ?_
  clear hr2
  rintro e w2 ⟨rfl, hb2⟩
  go_wp2_with fail
  go_ret
  exact ⟨by rw [HE.out]; rfl, hB1.trans (hb2.mono hB1.size)⟩
end Go.Proofs.YtkegnmclhkpbkaaGreat

/- Contract: check.Of: all faults of a graph, by a schema, both being right. -/
namespace Go.Proofs.YtkegnmclhkpbkaaGreat
open Go Go.RowKit


theorem Told2.trans {B bm : Nat} {w w1 w2 : World} {bc : Nat} {vk vb vn vt : Value} {fs gs : List Flt} {S S' : List Key} (h : Told2 B bm w w1 bc vk vb vn vt fs S) (k : Told2 B bm w1 w2 bc vk vb vn vt gs S') : Told2 B bm w w2 bc vk vb vn vt gs S' :=
  ⟨k.c, h.b.trans k.b, fun T h1 h2 => (h.s T h1 h2).trans (k.s T h1 h2), k.m, Nat.le_trans h.z k.z⟩
theorem scm_right {s : Scm} (h : (scmE s).2 = 0) : Right s.kinds ∧ s.bonds.length ≤ 12 := by
  unfold scmE at h
  split at h
  · rename_i h0
    split at h
    · simp at h
    · exact ⟨checkE_zero h0, by omega⟩
  · rename_i h0; exact absurd h h0
theorem Right.ck {s : Scm} (h : Right s.kinds) : CkOk s := by
  refine ⟨h.len, fun k hk => ?_, fun k hk => ?_⟩
  · obtain ⟨i, hi⟩ := List.mem_iff_getElem?.1 hk
    have := (h.one i k hi).ofl
    omega
  · obtain ⟨i, hi⟩ := List.mem_iff_getElem?.1 hk
    exact (h.one i k hi).fll
theorem bFind_casesC (l : List Bnd) (nm : ByteArray) : bFind l nm < 0 ∨ ∃ (i : Nat) (d : Bnd), bFind l nm = i ∧ l[i]? = some d := by
  by_cases h : bFind l nm < 0
  · exact .inl h
  · obtain ⟨i, d, h1, h2, _⟩ := idxI_nonneg (p := fun b : Bnd => decide (b.name = nm)) (l := l) (by unfold bFind at h; omega)
    exact .inr ⟨i, d, h1, h2⟩
theorem tieF_none {s : Scm} {g : Grf} {t : Tie} (h : bFind s.bonds t.bond < 0) : tieF s g t = [⟨5, t.src, t.bond⟩] := by
  unfold tieF
  split
  · rw [if_pos h]
  · rfl
theorem tieF_at {s : Scm} {g : Grf} {t : Tie} {i : Nat} {d : Bnd} (h : bFind s.bonds t.bond = i) (hd : s.bonds[i]? = some d) : tieF s g t = if endB s g t.src d.src = true ∧ endB s g t.dst d.dst = true then [] else [⟨6, t.src, t.bond⟩] := by
  unfold tieF
  rw [h, Int.toNat_natCast, hd]
  simp only
  rw [if_neg (by omega)]
/-- A graph that is right: each node's record is short, and rises. -/
theorem grf_recs {g : Grf} (h : grfE g = 0) : ∀ n ∈ g.nodes, n.props.length ≤ 8 ∧ chain prpLt n.props = true := by
  intro n hn
  obtain ⟨_, _, _, h4⟩ := grf_ok h
  obtain ⟨_, h5⟩ := h4 n hn
  unfold nodE at h5
  split at h5
  · simp at h5
  · split at h5
    · obtain ⟨a, _, c⟩ := rec_ok h5
      exact ⟨a, c⟩
    · rename_i h6; exact absurd h5 h6
set_option maxRecDepth 100000 in
set_option maxHeartbeats 16000000 in
theorem of_any (s : Scm) (g : Grf) (vk vb vn vt : Value) (w : World) (hs : ScmR w vk vb s) (hg : GrfR w vn vt g) (h1 : (scmE s).2 = 0) (h2 : grfE g = 0) :
    Calls Tryz.prog 23 #[.agg #[vk, vb], .agg #[vn, vt]] w fun e w' => ∃ u, e = .returned u ∧ Sl fltL w' u (ofF s g) ∧ Below w.heap.size w w' := by
  obtain ⟨hright, hbl⟩ := scm_right h1
  have hok := hright.ck
  obtain ⟨hnl, htl, hch, _⟩ := grf_ok h2
  have HRC := Lib.hid (grf_recs h2)
  have HKL : Hid (∀ nm, (kfl s nm).length ≤ 8) := kfl_len hright
  obtain ⟨Ak, ck, rfl, _, _⟩ := hs.1.form
  obtain ⟨Ab, cb, rfl, _, _⟩ := hs.2.form
  obtain ⟨An, cn, rfl, _, _⟩ := hg.1.form
  obtain ⟨At, ct, rfl, _, _⟩ := hg.2.form
  have hmm := @run_makeMap Tryz.prog
  obtain ⟨W1, hW1⟩ : ∃ W1, W1 = (w.alloc (.cells #[.slice Ak s.kinds.length ck, .slice Ab s.bonds.length cb] 25)).alloc (.cells #[.slice An g.nodes.length cn, .slice At g.ties.length ct] 29) := ⟨_, rfl⟩
  have hb1 : Below w.heap.size w W1 := by rw [hW1]; exact ((Below.refl _ _).alloc (Nat.le_refl _) _).alloc (by simp) _
  have g0 : W1.heap[w.heap.size]? = some (.cells #[.slice Ak s.kinds.length ck, .slice Ab s.bonds.length cb] 25 (0, 0)) := by
    rw [hW1, Below.heap_alloc _ _ _ (by simp)]; exact heap_alloc_new _ _
  have g1 : W1.heap[w.heap.size + 1]? = some (.cells #[.slice An g.nodes.length cn, .slice At g.ties.length ct] 29 (0, 0)) := by
    have := heap_alloc_new (w.alloc (.cells #[.slice Ak s.kinds.length ck, .slice Ab s.bonds.length cb] 25)) (.cells #[.slice An g.nodes.length cn, .slice At g.ties.length ct] 29); rw [hW1]; simpa using this
  have hsz : W1.heap.size = w.heap.size + 2 := by rw [hW1]; simp
  obtain ⟨Wc, hWc⟩ : ∃ Wc, Wc = (W1.alloc (.map #[] 0)).alloc (.cells #[.slice Ak s.kinds.length ck, .slice Ab s.bonds.length cb, .slice An g.nodes.length cn, .slice At g.ties.length ct, .slice none 0 0, .map (some W1.heap.size)] 103) := ⟨_, rfl⟩
  have hT0 : Told2 W1.heap.size W1.heap.size W1 Wc (W1.heap.size + 1) (.slice Ak s.kinds.length ck) (.slice Ab s.bonds.length cb) (.slice An g.nodes.length cn) (.slice At g.ties.length ct) [] [] := by
    have hbb : Below W1.heap.size W1 Wc := by rw [hWc]; exact ((Below.refl _ _).alloc (Nat.le_refl _) _).alloc (by simp) _
    refine ⟨⟨.slice none 0 0, ?_, by omega, Own.nil _ _ _ _, by simp⟩, hbb, fun T _ _ => Same.below hbb, ?_, hbb.size⟩
    · have := heap_alloc_new (W1.alloc (.map #[] 0)) (.cells #[.slice Ak s.kinds.length ck, .slice Ab s.bonds.length cb, .slice An g.nodes.length cn, .slice At g.ties.length ct, .slice none 0 0, .map (some W1.heap.size)] 103); rw [hWc]; simpa using this
    · refine (MapK.made W1).keep fun m c hm => ?_
      rw [hWc, Below.heap_alloc _ _ _ (by simp)]; exact hm
  have hT0 : Told2 W1.heap.size (w.heap.size + 1 + 1) W1 Wc (w.heap.size + 1 + 1 + 1) (.slice Ak s.kinds.length ck) (.slice Ab s.bonds.length cb) (.slice An g.nodes.length cn) (.slice At g.ties.length ct) [] [] := by
    have key : ∀ x, x = W1.heap.size → Told2 W1.heap.size x W1 Wc (x + 1) (.slice Ak s.kinds.length ck) (.slice Ab s.bonds.length cb) (.slice An g.nodes.length cn) (.slice At g.ties.length ct) [] [] := fun x hx => by subst hx; exact hT0
    exact key _ hsz.symm
  have hWc' := hWc.symm
  rw [hW1] at hWc'
  simp only [World.size_alloc] at hWc'
  have x0 := block_cell g0 0
  have x1 := block_cell g0 1
  have y0 := block_cell g1 0
  have y1 := block_cell g1 1
  have hbc : Below W1.heap.size W1 Wc := hT0.b
  have x0 := cell_below hbc x0
  have x1 := cell_below hbc x1
  have y0 := cell_below hbc y0
  have y1 := cell_below hbc y1
  have HG0 := Lib.hid g0
  have HG1 := Lib.hid g1
  have HS := Lib.hid (hs.below hb1)
  have HG := Lib.hid (hg.below hb1)
  have HT0 := Lib.hid hT0
  have HSZ := Lib.hid hsz
  clear hs hg g0 g1 hT0 hsz h1 h2 hW1 hWc hbc x0 x1 y1
  go_enter Tryz.func23, Tryz.ntmps23
  go_upto_region 2 with fail
  clear hWc' hmm
  go_wp2_with fail
  go_loopw [19] (fun i wr => ∃ k : Nat, k ≤ g.nodes.length ∧ i = .int .i64 k ∧ Hid (Told2 W1.heap.size (w.heap.size + 1 + 1) W1 wr (w.heap.size + 1 + 1 + 1) (.slice Ak s.kinds.length ck) (.slice Ab s.bonds.length cb) (.slice An g.nodes.length cn) (.slice At g.ties.length ct) (nodesF s g (g.nodes.take k)).1 (nodesF s g (g.nodes.take k)).2)) (fun i _ => g.nodes.length - (intOf i).toNat)
  case atStart => exact ⟨0, Nat.zero_le _, rfl, HT0.out⟩
  case round =>
    clear HT0 y0
    obtain ⟨k, hk, rfl, HT⟩ := hrel
    have hWr : Below W1.heap.size W1 wr := HT.out.b
    by_cases hlt : k < g.nodes.length
    · obtain ⟨n, hd⟩ : ∃ d, g.nodes[k]? = some d := ⟨_, List.getElem?_eq_getElem hlt⟩
      have hlt' : (k : Int) < (g.nodes.length : Int) := by omega
      obtain ⟨gb, o, rfl, u, hid, hkd, hpr, q0, q1, q2⟩ := nod_at HG.out.1 hd
      obtain ⟨Au, cu, rfl, _, _⟩ := hpr.form
      have q0 := cell_below hWr q0
      have q1 := cell_below hWr q1
      have q2 := cell_below hWr q2
      obtain ⟨z0, z1, z2⟩ := cell_box3 wr (.int .i64 n.id) (.string n.kind) (.slice Au n.props.length cu) 34
      have ha1 : Below wr.heap.size wr (wr.alloc (.cells #[.int .i64 n.id, .string n.kind, .slice Au n.props.length cu] 34)) := (Below.refl _ _).alloc (Nat.le_refl _) _
      have hBr : W1.heap.size ≤ wr.heap.size := hWr.size
      have HT1 := Lib.hid (HT.out.last hBr ha1)
      have hWa := hWr.trans (ha1.mono hWr.size)
      obtain ⟨hp8, hpc⟩ := HRC.out n (List.mem_of_getElem? hd)
      have hk8 := HKL.out n.kind
      obtain ⟨outa, hca⟩ := HT1.out.c
      have hln := nodesF_le (g := g) HKL.out hbl (fun m hm => (HRC.out m hm).1) k
      have hnode := node_any W1.heap.size (w.heap.size + 1 + 1 + 1) (w.heap.size + 1 + 1) _ _ _ _ outa _ _ s g n _ W1 _ rfl (by have := HSZ.out; omega) hWa hca HT1.out.m HS.out hok hbl HG.out (by omega) hpr hid hkd hpc (by omega) (by omega) (by omega)
      have HSN : Hid (nodesF s g (g.nodes.take (k + 1)) = ((nodesF s g (g.nodes.take k)).1 ++ (nodeF s g (nodesF s g (g.nodes.take k)).2 n).1, (nodeF s g (nodesF s g (g.nodes.take k)).2 n).2)) := by unfold Hid; rw [take_snocF hd, nodesF_snoc]
      clear hd HT hpr hca hpc hp8 hk8 hln hid hkd
      go_upto_region 5 with fail
      generalize wr.alloc (.cells #[.int .i64 n.id, .string n.kind, .slice Au n.props.length cu] 34) = Wa at *
      go_wp2_with fail
      refine hnode.mono ?_
      clear hnode
      rintro e w3 ⟨rfl, ht⟩
      have HT3 := Lib.hid (HT1.out.trans ht)
      clear ht HT1
      go_wp2_with fail
      go_roundw
      case rel => exact ⟨k + 1, by omega, by go_num, by unfold Hid; rw [HSN.out]; exact HT3.out⟩
      case measure => simp [intOf]; omega
    · obtain rfl : k = g.nodes.length := by omega
      rw [List.take_length] at HT
      have hln := nodesF_le (g := g) HKL.out hbl (fun m hm => (HRC.out m hm).1) g.nodes.length
      rw [List.take_length] at hln
      have hg1 := (hWr.block _ (Array.getElem?_eq_some_iff.1 HG1.out).1).trans HG1.out
      have y1 := block_cell hg1 1
      clear hlt hk hWr hg1
      have HNF : Hid (ofF s g = (nodesF s g g.nodes).1 ++ g.ties.flatMap (tieF s g)) := rfl
      generalize hnf1 : (nodesF s g g.nodes).1 = N1 at *
      generalize hnf2 : (nodesF s g g.nodes).2 = N2 at *
      clear hnf1 hnf2
      go_wp2_with fail
      go_loopw [30] (fun i wr => ∃ k : Nat, k ≤ g.ties.length ∧ i = .int .i64 k ∧ Hid (Told2 W1.heap.size (w.heap.size + 1 + 1) W1 wr (w.heap.size + 1 + 1 + 1) (.slice Ak s.kinds.length ck) (.slice Ab s.bonds.length cb) (.slice An g.nodes.length cn) (.slice At g.ties.length ct) (N1 ++ (g.ties.take k).flatMap (tieF s g)) N2)) (fun i _ => g.ties.length - (intOf i).toNat)
      case atStart => exact ⟨0, Nat.zero_le _, rfl, by unfold Hid; simpa using HT.out⟩
      case round =>
        clear HT y1
        obtain ⟨k, hk, rfl, HT⟩ := hrel
        have hWr : Below W1.heap.size W1 wr := HT.out.b
        by_cases hlt : k < g.ties.length
        · obtain ⟨t, hd⟩ : ∃ d, g.ties[k]? = some d := ⟨_, List.getElem?_eq_getElem hlt⟩
          have hlt' : (k : Int) < (g.ties.length : Int) := by omega
          obtain ⟨gb, o, rfl, hokt, q0, q1, q2⟩ := tie_at HG.out.2 hd
          have q0 := cell_below hWr q0
          have q1 := cell_below hWr q1
          have q2 := cell_below hWr q2
          obtain ⟨z0, z1, z2⟩ := cell_box3 wr (.string t.bond) (.int .i64 t.src) (.int .i64 t.dst) 36
          have hbk := heap_alloc_new wr (.cells #[.string t.bond, .int .i64 t.src, .int .i64 t.dst] 36)
          have ha1 : Below wr.heap.size wr (wr.alloc (.cells #[.string t.bond, .int .i64 t.src, .int .i64 t.dst] 36)) := (Below.refl _ _).alloc (Nat.le_refl _) _
          have hBr : W1.heap.size ≤ wr.heap.size := hWr.size
          have HT1 := Lib.hid (HT.out.last hBr ha1)
          have hWa := hWr.trans (ha1.mono hWr.size)
          have hg0 := (hWa.block _ (Array.getElem?_eq_some_iff.1 HG0.out).1).trans HG0.out
          have x0 := block_cell hg0 0
          have x1 := block_cell hg0 1
          have hfd := sFind_any s t.bond _ _ _ (HS.out.below hWa)
          have htl9 := tieF_le s g k
          have HOKT := Lib.hid hokt
          have HST : Hid ((g.ties.take (k + 1)).flatMap (tieF s g) = (g.ties.take k).flatMap (tieF s g) ++ tieF s g t) := by unfold Hid; rw [take_snocF hd, List.flatMap_append]; simp
          have HN0 : Hid (bFind s.bonds t.bond < 0 → tieF s g t = [⟨5, t.src, t.bond⟩]) := tieF_none
          have HNA : Hid (∀ (i : Nat) d, bFind s.bonds t.bond = i → s.bonds[i]? = some d → tieF s g t = if endB s g t.src d.src = true ∧ endB s g t.dst d.dst = true then [] else [⟨6, t.src, t.bond⟩]) := fun i d h1 h2 => tieF_at h1 h2
          have hbc := bFind_casesC s.bonds t.bond
          clear hd HT hokt hg0 hWr
          go_upto_region 10 with fail
          generalize wr.alloc (.cells #[.string t.bond, .int .i64 t.src, .int .i64 t.dst] 36) = Wa at *
          generalize bFind s.bonds t.bond = z at *
          go_wp2_with fail
          refine hfd.mono ?_
          clear hfd
          rintro e w3 ⟨rfl, hb3⟩
          have hW3 := hWa.trans (hb3.mono hWa.size)
          have HT3 := Lib.hid (HT1.out.last (Nat.le_trans hBr ha1.size) hb3)
          have hB3 : W1.heap.size ≤ w3.heap.size := hW3.size
          have hbk3 := (hb3.block _ (Array.getElem?_eq_some_iff.1 hbk).1).trans hbk
          clear hbk HT1 hb3 hWa ha1 q0 q1 q2 z0 z1 z2 x0 x1
          rcases hbc with hz | ⟨i, d, rfl, hdb⟩
          · have HN : Hid (tieF s g t = [⟨5, t.src, t.bond⟩]) := HN0.out hz
            have hz' : decide (z < 0) = true := decide_eq_true hz
            clear HN0 HNA hz hW3
            -- w3: the world; HT3: what has been told; hbk3: the tie's box; 5: which fault; hB3: the bound; w4: the world then
            obtain ⟨outx, hcx⟩ := (HT3).out.c
            have htell := tell_any _ _ _ _ _ _ _ outx _ ⟨5, t.src, t.bond⟩ w3 hB3 hcx ⟨⟨by show (-9223372036854775808 : Int) ≤ 5; omega, by show (5 : Int) ≤ 9223372036854775807; omega⟩, HOKT.out.2.1, HOKT.out.1⟩ (by rw [List.length_append]; omega)
            have c0 := block_cell (hbk3) 0
            have c1 := block_cell (hbk3) 1
            clear hcx hbk3
            go_wp2_with fail
            refine htell.mono ?_
            clear htell c0 c1
            rintro e w4 ⟨rfl, ht⟩
            have HT9 := Lib.hid ((HT3).out.tell ht)
            clear ht HT3
            go_wp2_with fail
            go_roundw
            case rel => exact ⟨k + 1, by omega, by go_num, by unfold Hid; rw [HST.out, HN.out, ← List.append_assoc]; exact HT9.out⟩
            case measure => simp [intOf]; omega
          · have hz' : decide ((i : Int) < 0) = false := decide_eq_false (by omega)
            have HN1 := Lib.hid (HNA.out i d rfl hdb)
            have hil := (List.getElem?_eq_some_iff.1 hdb).1
            have hil' : (i : Int) < (s.bonds.length : Int) := by omega
            have hi0 : (0 : Int) ≤ (i : Int) := by omega
            obtain ⟨gb2, o2, rfl, _, r0, r1, r2, r3, r4⟩ := bnd_at (HS.out.below hW3).2 hdb
            have hg0 := (hW3.block _ (Array.getElem?_eq_some_iff.1 HG0.out).1).trans HG0.out
            have x1 := block_cell hg0 1
            have c1 := block_cell hbk3 1
            have c2 := block_cell hbk3 2
            obtain ⟨out3, hc3⟩ := HT3.out.c
            have HE : Hid (∀ W, Below w3.heap.size w3 W → ∀ id asked, Calls Tryz.prog 50 #[.pointer (some ⟨w.heap.size + 1 + 1 + 1, 0, none⟩), .int .i64 id, .string asked] W fun e w' => e = .returned (.bool (endB s g id asked)) ∧ Below W.heap.size W w') := fun W h id asked =>
              end_any _ _ _ _ _ _ _ _ _ s g id asked W1 W (hW3.trans (h.mono hW3.size)) (hc3.below h) HS.out hok HG.out hch (by omega)
            obtain ⟨e1, he1⟩ : ∃ e1, endB s g t.src d.src = e1 := ⟨_, rfl⟩
            obtain ⟨e2, he2⟩ : ∃ e2, endB s g t.dst d.dst = e2 := ⟨_, rfl⟩
            rw [he1, he2] at HN1
            have HE1 : Hid (∀ W, Below w3.heap.size w3 W → Calls Tryz.prog 50 #[.pointer (some ⟨w.heap.size + 1 + 1 + 1, 0, none⟩), .int .i64 t.src, .string d.src] W fun e w' => e = .returned (.bool e1) ∧ Below W.heap.size W w') := fun W h => by rw [← he1]; exact HE.out W h _ _
            have HE2 : Hid (∀ W, Below w3.heap.size w3 W → Calls Tryz.prog 50 #[.pointer (some ⟨w.heap.size + 1 + 1 + 1, 0, none⟩), .int .i64 t.dst, .string d.dst] W fun e w' => e = .returned (.bool e2) ∧ Below W.heap.size W w') := fun W h => by rw [← he2]; exact HE.out W h _ _
            have HBK := Lib.hid hbk3
            clear HN0 HNA hdb hg0 hbk3 hc3 r0 r3 r4 he1 he2 HE
            have hbd : Below w3.heap.size w3 w3.drew := (Below.refl _ _).drew
            cases e1 with
            | false =>
              have HN : Hid (tieF s g t = [⟨6, t.src, t.bond⟩]) := by unfold Hid; rw [HN1.out, if_neg (by simp)]
              clear HN1 HE2
              go_wp2_with fail
              refine wp_mid_k 9 _ rfl rfl (by kernel_rfl) (by kernel_rfl) ?_
              simp only [List.take_succ_cons, List.take_zero, List.drop_succ_cons, List.drop_zero]
              repeat (go_big_quiet_step (fail))
              refine wpQuiet_nil ?_
              intro _ hw'
              obtain ⟨nq, hw''⟩ := hw'
              subst hw''
              intro K hK
              have hk1 := HE1.out (w3.drewN nq) (below_drewN (Below.refl _ _) nq)
              clear HE1
              go_wp2_with fail
              refine hk1.mono ?_
              clear hk1
              rintro e w4 ⟨rfl, hb4⟩
              have hb34 := (below_drewN (Below.refl w3.heap.size w3) nq).trans hb4
              refine hK _ _ ?_
              repeat (go_big_quiet_step (fail))
              refine wpQuiet_nil ?_
              intro _ hw'
              obtain ⟨nq2, hw''⟩ := hw'
              subst hw''
              clear hK
              have hbW := below_drewN hb34 nq2
              generalize w4.drewN nq2 = w5 at *
              -- w5: the world; hbW: that it is above w3
              have hB5 : W1.heap.size ≤ (w5).heap.size := Nat.le_trans hB3 (hbW).size
              have HT5 := Lib.hid (HT3.out.last hB3 hbW)
              have hbk5 := ((hbW).block _ (Array.getElem?_eq_some_iff.1 HBK.out).1).trans HBK.out
              clear HBK HT3 x1 c1 c2 r1 r2 hbd
              -- w5: the world; HT5: what has been told; hbk5: the tie's box; 6: which fault; hB5: the bound; w6: the world then
              obtain ⟨outx, hcx⟩ := (HT5).out.c
              have htell := tell_any _ _ _ _ _ _ _ outx _ ⟨6, t.src, t.bond⟩ w5 hB5 hcx ⟨⟨by show (-9223372036854775808 : Int) ≤ 6; omega, by show (6 : Int) ≤ 9223372036854775807; omega⟩, HOKT.out.2.1, HOKT.out.1⟩ (by rw [List.length_append]; omega)
              have c0 := block_cell (hbk5) 0
              have c1 := block_cell (hbk5) 1
              clear hcx hbk5
              go_wp2_with fail
              refine htell.mono ?_
              clear htell c0 c1
              rintro e w6 ⟨rfl, ht⟩
              have HT9 := Lib.hid ((HT5).out.tell ht)
              clear ht HT5
              go_wp2_with fail
              go_roundw
              case rel => exact ⟨k + 1, by omega, by go_num, by unfold Hid; rw [HST.out, HN.out, ← List.append_assoc]; exact HT9.out⟩
              case measure => simp [intOf]; omega
            | true =>
              have HK0 := HE1.out w3.drew hbd
              have hkeep := And.intro (cell_below hbd x1) (And.intro (cell_below hbd c1) (And.intro (cell_below hbd c2) (And.intro (cell_below hbd r1) (cell_below hbd r2))))
              clear HE1
              cases e2 with
              | false =>
                have HN : Hid (tieF s g t = [⟨6, t.src, t.bond⟩]) := by unfold Hid; rw [HN1.out, if_neg (by simp)]
                clear HN1
                go_wp2_with fail
                go_region_held3 (fun w' => w'.cell? ⟨w.heap.size, 1, none⟩ = some (.slice (some ⟨gb2, o2, none⟩) s.bonds.length cb) ∧ w'.cell? ⟨wr.heap.size, 1, none⟩ = some (.int .i64 t.src) ∧ w'.cell? ⟨wr.heap.size, 2, none⟩ = some (.int .i64 t.dst) ∧ w'.cell? ⟨gb2, o2 + i * 5 + 1, none⟩ = some (.string d.src) ∧ w'.cell? ⟨gb2, o2 + i * 5 + 2, none⟩ = some (.string d.dst))
                  (first
                    | exact hkeep
                    | go_keep)
                  (first
                    | (go_at_call 50
                       refine HK0.mono ?_
                       clear HK0
                       rintro e w4 ⟨rfl, hb3⟩
                       have hb23 := hbd.trans (hb3.mono hbd.size)
                       have hkeep := And.intro (cell_below hb23 x1) (And.intro (cell_below hb23 c1) (And.intro (cell_below hb23 c2) (And.intro (cell_below hb23 r1) (cell_below hb23 r2))))
                       have HK1 := HE2.out w4 hb23)
                    | (go_at_call 50
                       refine HK1.mono ?_
                       clear HK1
                       rintro e w5 ⟨rfl, hb4⟩
                       have hb24 := hb23.trans (hb4.mono hb23.size)
                       have hkeep := And.intro (cell_below hb24 x1) (And.intro (cell_below hb24 c1) (And.intro (cell_below hb24 c2) (And.intro (cell_below hb24 r1) (cell_below hb24 r2))))))
                all_goals
                  -- w5: the world; hb24: that it is above w3
                  have hB5 : W1.heap.size ≤ (w5).heap.size := Nat.le_trans hB3 (hb24).size
                  have HT5 := Lib.hid (HT3.out.last hB3 hb24)
                  have hbk5 := ((hb24).block _ (Array.getElem?_eq_some_iff.1 HBK.out).1).trans HBK.out
                  clear HBK HT3 x1 c1 c2 r1 r2 hbd
                  clear hb3 hb4 hb23 hb24 hkeep
                  -- w5: the world; HT5: what has been told; hbk5: the tie's box; 6: which fault; hB5: the bound; w6: the world then
                  obtain ⟨outx, hcx⟩ := (HT5).out.c
                  have htell := tell_any _ _ _ _ _ _ _ outx _ ⟨6, t.src, t.bond⟩ w5 hB5 hcx ⟨⟨by show (-9223372036854775808 : Int) ≤ 6; omega, by show (6 : Int) ≤ 9223372036854775807; omega⟩, HOKT.out.2.1, HOKT.out.1⟩ (by rw [List.length_append]; omega)
                  have c0 := block_cell (hbk5) 0
                  have c1 := block_cell (hbk5) 1
                  clear hcx hbk5
                  go_wp2_with fail
                  refine htell.mono ?_
                  clear htell c0 c1
                  rintro e w6 ⟨rfl, ht⟩
                  have HT9 := Lib.hid ((HT5).out.tell ht)
                  clear ht HT5
                  go_wp2_with fail
                  go_roundw
                  case rel => exact ⟨k + 1, by omega, by go_num, by unfold Hid; rw [HST.out, HN.out, ← List.append_assoc]; exact HT9.out⟩
                  case measure => simp [intOf]; omega
              | true =>
                have HN : Hid (tieF s g t = []) := by unfold Hid; rw [HN1.out, if_pos ⟨rfl, rfl⟩]
                clear HN1
                go_wp2_with fail
                go_region_held3 (fun w' => w'.cell? ⟨w.heap.size, 1, none⟩ = some (.slice (some ⟨gb2, o2, none⟩) s.bonds.length cb) ∧ w'.cell? ⟨wr.heap.size, 1, none⟩ = some (.int .i64 t.src) ∧ w'.cell? ⟨wr.heap.size, 2, none⟩ = some (.int .i64 t.dst) ∧ w'.cell? ⟨gb2, o2 + i * 5 + 1, none⟩ = some (.string d.src) ∧ w'.cell? ⟨gb2, o2 + i * 5 + 2, none⟩ = some (.string d.dst))
                  (first
                    | exact hkeep
                    | go_keep)
                  (first
                    | (go_at_call 50
                       refine HK0.mono ?_
                       clear HK0
                       rintro e w4 ⟨rfl, hb3⟩
                       have hb23 := hbd.trans (hb3.mono hbd.size)
                       have hkeep := And.intro (cell_below hb23 x1) (And.intro (cell_below hb23 c1) (And.intro (cell_below hb23 c2) (And.intro (cell_below hb23 r1) (cell_below hb23 r2))))
                       have HK1 := HE2.out w4 hb23)
                    | (go_at_call 50
                       refine HK1.mono ?_
                       clear HK1
                       rintro e w5 ⟨rfl, hb4⟩
                       have hb24 := hb23.trans (hb4.mono hb23.size)
                       have hkeep := And.intro (cell_below hb24 x1) (And.intro (cell_below hb24 c1) (And.intro (cell_below hb24 c2) (And.intro (cell_below hb24 r1) (cell_below hb24 r2))))))
                all_goals
                  -- w5: the world; hb24: that it is above w3
                  have hB5 : W1.heap.size ≤ (w5).heap.size := Nat.le_trans hB3 (hb24).size
                  have HT5 := Lib.hid (HT3.out.last hB3 hb24)
                  have hbk5 := ((hb24).block _ (Array.getElem?_eq_some_iff.1 HBK.out).1).trans HBK.out
                  clear HBK HT3 x1 c1 c2 r1 r2 hbd
                  clear hb3 hb4 hb23 hb24 hkeep
                  go_wp2_with fail
                  go_roundw
                  case rel => exact ⟨k + 1, by omega, by go_num, by unfold Hid; rw [HST.out, HN.out, List.append_nil]; exact HT5.out⟩
                  case measure => simp [intOf]; omega
        · obtain rfl : k = g.ties.length := by omega
          rw [List.take_length] at HT
          rw [← HNF.out] at HT
          obtain ⟨fF, hfF⟩ : ∃ x, x = ofF s g := ⟨_, rfl⟩
          rw [← hfF] at HT
          have HF := Lib.hid hfF
          obtain ⟨outr, hcr⟩ := HT.out.c
          have m4 := block_cell hcr.q 4
          obtain ⟨Ao, co, rfl, _, _⟩ := hcr.o.form
          have HC := Lib.hid hcr
          clear hlt hk hcr HNF hfF
          go_wp2_with fail
          go_ret
          exact ⟨_, rfl, by rw [← HF.out]; exact Own.flat Flt.enc_len HC.out.k HC.out.o, hb1.trans (HT.out.b.mono hb1.size)⟩
end Go.Proofs.YtkegnmclhkpbkaaGreat

/- Contracts: check.Faults, check.Conforms, check.NodeFaults. No condition. -/
namespace Go.Proofs.YtkegnmclhkpbkaaGreat
open Go Go.RowKit

def faultsR (s : Scm) (g : Grf) : List Flt := if readySG s g = 0 then ofF s g else []
def confR (s : Scm) (g : Grf) : Bool := decide (readySG s g = 0) && decide ((faultsR s g).length = 0)
theorem readySG_zero {s : Scm} {g : Grf} (h : readySG s g = 0) : (scmE s).2 = 0 ∧ grfE g = 0 := by
  unfold readySG at h
  split at h
  · rename_i h0; exact ⟨h0, h⟩
  · rename_i h0; exact absurd h h0
def RetF (l : List Flt) (err : Int) (w : World) (e : Ending) (w' : World) : Prop := ∃ u, e = .returned (.tuple #[u, errV err]) ∧ Sl fltL w' u l ∧ Below w.heap.size w w'

/-! ### A node by itself -/
def nodeFE (s : Scm) (n : Nod) : Int := if (scmE s).2 = 0 then nodE n else (scmE s).2
def nodeFR (s : Scm) (n : Nod) : List Flt := if nodeFE s n = 0 then aloneF s n else []
theorem nodE_rec {n : Nod} (h5 : nodE n = 0) : n.props.length ≤ 8 ∧ chain prpLt n.props = true := by
  unfold nodE at h5
  split at h5
  · simp at h5
  · split at h5
    · obtain ⟨a, _, c⟩ := rec_ok h5
      exact ⟨a, c⟩
    · rename_i h6; exact absurd h5 h6
end Go.Proofs.YtkegnmclhkpbkaaGreat

/- Contract: index.OwnSchema; schemas that a call owns. -/
namespace Go.Proofs.YtkegnmclhkpbkaaGreat
open Go Go.RowKit

/-- Kinds of which each one's lists are the call's own. -/
def OwnKnds (w : World) (B : Nat) : List Knd → List Value → Prop
  | [], xs => xs = []
  | d :: l, xs => ∃ u x ys, xs = [.string d.name, u, x] ++ ys ∧ Sm d.name ∧ (∀ p ∈ d.ofs, Sm p) ∧ Own w B 9 1 u d.ofs.length (d.ofs.map Value.string) ∧ (∀ p ∈ d.fields, p.ok) ∧ Own w B 135 4 x d.fields.length (d.fields.flatMap Fld.enc) ∧ OwnKnds w B l ys
theorem OwnKnds.same {w w' : World} {B : Nat} (h1 : Same 9 w w') (h2 : Same 135 w w') : ∀ {l : List Knd} {xs : List Value}, OwnKnds w B l xs → OwnKnds w' B l xs
  | [], _, h => h
  | _ :: _, _, h => by
    obtain ⟨u, x, ys, rfl, a1, a2, a3, a4, a5, a6⟩ := h
    exact ⟨u, x, ys, rfl, a1, a2, a3.same h1, a4, a5.same h2, a6.same h1 h2⟩
theorem OwnKnds.snoc {w : World} {B : Nat} {d : Knd} {u x : Value} (a1 : Sm d.name) (a2 : ∀ p ∈ d.ofs, Sm p) (a3 : Own w B 9 1 u d.ofs.length (d.ofs.map Value.string)) (a4 : ∀ p ∈ d.fields, p.ok) (a5 : Own w B 135 4 x d.fields.length (d.fields.flatMap Fld.enc)) :
    ∀ {l : List Knd} {xs : List Value}, OwnKnds w B l xs → OwnKnds w B (l ++ [d]) (xs ++ [.string d.name, u, x])
  | [], xs, h => by rw [show xs = [] from h]; exact ⟨u, x, [], by simp, a1, a2, a3, a4, a5, rfl⟩
  | e :: l, xs, h => by
    obtain ⟨v, y, ys, rfl, b1, b2, b3, b4, b5, b6⟩ := h
    exact ⟨v, y, ys ++ [.string d.name, u, x], by simp, b1, b2, b3, b4, b5, b6.snoc a1 a2 a3 a4 a5⟩
theorem OwnKnds.len {w : World} {B : Nat} : ∀ {l : List Knd} {xs : List Value}, OwnKnds w B l xs → xs.length = l.length * 3
  | [], xs, h => by rw [show xs = [] from h]; rfl
  | d :: l, xs, h => by
    obtain ⟨u, x, ys, rfl, _, _, _, _, _, h6⟩ := h
    have := h6.len
    simp only [List.length_append, List.length_cons, List.length_nil, this]
    omega
theorem OwnKnds.row {w : World} {B : Nat} : ∀ {l : List Knd} {xs : List Value}, OwnKnds w B l xs → Row kndL w l xs
  | [], _, h => h
  | _ :: _, _, h => by
    obtain ⟨u, x, ys, rfl, a1, a2, a3, a4, a5, a6⟩ := h
    exact ⟨_, ys, rfl, ⟨u, x, rfl, a1, Own.strs a2 a3, a5.flds a4⟩, a6.row⟩
theorem OwnKnds.append {w : World} {B : Nat} : ∀ {l m : List Knd} {xs ys : List Value}, OwnKnds w B l xs → OwnKnds w B m ys → OwnKnds w B (l ++ m) (xs ++ ys)
  | [], m, xs, ys, h, k => by rw [show xs = [] from h]; exact k
  | d :: l, m, xs, ys, h, k => by
    obtain ⟨u, x, zs, rfl, a1, a2, a3, a4, a5, a6⟩ := h
    exact ⟨u, x, zs ++ ys, by simp, a1, a2, a3, a4, a5, a6.append k⟩
/-- No two kinds have their fields in one block. -/
def FDist (xs : List Value) : Prop := ∀ (i j : Nat) (x y : Value) (b : Nat), i < j → xs[i * 3 + 2]? = some x → xs[j * 3 + 2]? = some y → x.ownBlock = some b → y.ownBlock ≠ some b
theorem FDist.nil : FDist [] := fun i j x y b _ h => by simp at h
theorem FDist.snoc {ys : List Value} {k : Nat} {a u x : Value} (h : FDist ys) (hl : ys.length = k * 3) (hn : ∀ (i : Nat) (y : Value) (b : Nat), ys[i * 3 + 2]? = some y → y.ownBlock = some b → x.ownBlock ≠ some b) : FDist (ys ++ [a, u, x]) := by
  intro i j y z b hij hi hj hb
  have hjl : j * 3 + 2 < (ys ++ [a, u, x]).length := (List.getElem?_eq_some_iff.1 hj).1
  rw [List.length_append, hl] at hjl
  simp only [List.length_cons, List.length_nil] at hjl
  have hil : i * 3 + 2 < ys.length := by omega
  rw [List.getElem?_append_left hil] at hi
  by_cases hjk : j < k
  · rw [List.getElem?_append_left (by omega)] at hj
    exact h i j y z b hij hi hj hb
  · obtain rfl : j = k := by omega
    rw [List.getElem?_append_right (by omega), hl, show j * 3 + 2 - j * 3 = 2 by omega] at hj
    simp at hj
    subst hj
    exact hn i y b hi hb
theorem FDist.put {xs : List Value} {k : Nat} {v : Value} (h : FDist xs) (hn : ∀ (i : Nat) (y : Value) (b : Nat), i ≠ k → xs[i * 3 + 2]? = some y → y.ownBlock = some b → v.ownBlock ≠ some b) : FDist (xs.set (k * 3 + 2) v) := by
  intro i j y z b hij hi hj hb
  rw [List.getElem?_set] at hi hj
  by_cases e1 : k = i
  · subst e1
    rw [if_pos rfl] at hi
    rw [if_neg (by omega)] at hj
    split at hi
    · simp at hi; subst hi
      intro hz
      exact hn j z b (by omega) hj hz hb
    · cases hi
  · rw [if_neg (by omega)] at hi
    by_cases e2 : k = j
    · subst e2
      rw [if_pos rfl] at hj
      split at hj
      · simp at hj; subst hj
        exact hn i y b (fun e => e1 e.symm) hi hb
      · cases hj
    · rw [if_neg (by omega)] at hj
      exact h i j y z b hij hi hj hb
theorem OwnKnds.flt {w : World} {B : Nat} : ∀ {l : List Knd} {xs : List Value}, OwnKnds w B l xs → ∀ (i : Nat) (y : Value) (b : Nat), xs[i * 3 + 2]? = some y → y.ownBlock = some b → b < w.heap.size
  | [], xs, h, i, y, b, hi, _ => by rw [show xs = [] from h] at hi; simp at hi
  | e :: l, xs, h, 0, y, b, hi, hb => by
    obtain ⟨u, x, ys, rfl, _, _, _, _, a5, _⟩ := h
    simp at hi
    subst hi
    exact (a5.lt b hb).2
  | e :: l, xs, h, i + 1, y, b, hi, hb => by
    obtain ⟨u, x, ys, rfl, _, _, _, _, _, a6⟩ := h
    rw [show (i + 1) * 3 + 2 = i * 3 + 2 + 1 + 1 + 1 by omega] at hi
    exact OwnKnds.flt a6 i y b hi hb
/-- A schema that is the call's own. -/
structure OwnS (w : World) (B : Nat) (vk vb : Value) (s : Scm) (xs : List Value) : Prop where
  n : Own w B 177 3 vk s.kinds.length xs
  o : OwnKnds w B s.kinds xs
  b : Own w B 109 5 vb s.bonds.length (s.bonds.flatMap Bnd.enc)
  k : ∀ x ∈ s.bonds, x.ok
  d : FDist xs
theorem OwnS.r {w : World} {B : Nat} {vk vb : Value} {s : Scm} {xs : List Value} (h : OwnS w B vk vb s xs) : ScmR w vk vb s := ⟨Own.row (L := kndL) h.n h.o.row, Own.bnds h.b h.k⟩
theorem OwnS.below {w w' : World} {B : Nat} {vk vb : Value} {s : Scm} {xs : List Value} (h : OwnS w B vk vb s xs) (hb : Below w.heap.size w w') : OwnS w' B vk vb s xs := ⟨h.n.below hb, h.o.same (.below hb) (.below hb), h.b.below hb, h.k, h.d⟩
theorem OwnS.same {w w' : World} {B : Nat} {vk vb : Value} {s : Scm} {xs : List Value} (h : OwnS w B vk vb s xs) (h1 : Same 177 w w') (h2 : Same 9 w w') (h3 : Same 135 w w') (h4 : Same 109 w w') : OwnS w' B vk vb s xs :=
  ⟨h.n.same h1, h.o.same h2 h3, h.b.same h4, h.k, h.d⟩
/-- What stands between two rounds: the first k kinds have lists of the call's own. -/
structure OwnSI (w wr : World) (s : Scm) (xs0 : List Value) (vk vb : Value) (k : Nat) (ys : List Value) : Prop where
  b : Below w.heap.size w wr
  z : w.heap.size + 2 ≤ wr.heap.size
  q : wr.heap[w.heap.size]? = some (.cells #[vk, vb] 25 (0, 0))
  r : wr.heap[w.heap.size + 1]? = some (.cells #[.slice none 0 0, .slice none 0 0] 25 (0, 0))
  n : Own wr w.heap.size 177 3 vk s.kinds.length (ys ++ xs0.drop (k * 3))
  o : OwnKnds wr w.heap.size (s.kinds.take k) ys
  t : Own wr w.heap.size 109 5 vb s.bonds.length (s.bonds.flatMap Bnd.enc)
  dd : FDist ys
theorem OwnSI.step {w wr w2 : World} {s : Scm} {xs0 ys : List Value} {gb o c : Nat} {vb u x : Value} {k : Nat} {d : Knd} (h : OwnSI w wr s xs0 (.slice (some ⟨gb, o, none⟩) s.kinds.length c) vb k ys) (hd : s.kinds[k]? = some d) (h1 : Sm d.name)
    (hlen : xs0.length = s.kinds.length * 3) (hx0 : xs0[k * 3]? = some (.string d.name)) (hb : Below wr.heap.size wr w2) (a2 : ∀ p ∈ d.ofs, Sm p) (a3 : Own w2 wr.heap.size 9 1 u d.ofs.length (d.ofs.map Value.string)) (a4 : ∀ p ∈ d.fields, p.ok) (a5 : Own w2 wr.heap.size 135 4 x d.fields.length (d.fields.flatMap Fld.enc)) :
    OwnSI w ((w2.setCell ⟨gb, o + k * 3 + 1, none⟩ u).setCell ⟨gb, o + k * 3 + 2, none⟩ x) s xs0 (.slice (some ⟨gb, o, none⟩) s.kinds.length c) vb (k + 1) (ys ++ [.string d.name, u, x]) := by
  have hkl := (List.getElem?_eq_some_iff.1 hd).1
  have hz := h.z
  have hyl := h.o.len
  have hyl' : ys.length = k * 3 := by rw [hyl, List.length_take, Nat.min_eq_left (by omega)]
  have o0 := h.n.below hb
  have o1 := o0.store (k * 3 + 1) (by omega) u
  have o2 := o1.store (k * 3 + 2) (by omega) x
  have hs2 : ∀ T, 177 ≠ T → Same T w2 ((w2.setCell ⟨gb, o + k * 3 + 1, none⟩ u).setCell ⟨gb, o + k * 3 + 2, none⟩ x) := fun T hT =>
    (Same.cellOf o0 hT _ _).trans (Same.cellOf o1 hT _ _)
  have hs : ∀ T, 177 ≠ T → Same T wr ((w2.setCell ⟨gb, o + k * 3 + 1, none⟩ u).setCell ⟨gb, o + k * 3 + 2, none⟩ x) := fun T hT => (Same.below hb).trans (hs2 T hT)
  have hgb := (o0.lt gb rfl).1
  have hx : (((ys ++ xs0.drop (k * 3)).set (k * 3 + 1) u).set (k * 3 + 2) x) = ys ++ [.string d.name, u, x] ++ xs0.drop ((k + 1) * 3) := by
    have e : xs0.drop (k * 3) = (xs0.drop (k * 3)).take 3 ++ xs0.drop ((k + 1) * 3) := by
      rw [show (k + 1) * 3 = k * 3 + 3 by omega, ← List.drop_drop, List.take_append_drop]
    have hl3 : ((xs0.drop (k * 3)).take 3).length = 3 := by rw [List.length_take, List.length_drop]; omega
    have h0 : ((xs0.drop (k * 3)).take 3)[0]? = some (.string d.name) := by rw [List.getElem?_take]; simp; simpa using hx0
    rw [e]
    generalize (xs0.drop (k * 3)).take 3 = Z at *
    match Z, hl3, h0 with
    | [a, b, c'], _, h0 =>
      obtain rfl : a = .string d.name := by simpa using h0
      have s := setAll_append ys [.string d.name, u, x] ([.string d.name, b, c'] ++ xs0.drop ((k + 1) * 3)) 0
      rw [setAll_head [.string d.name, u, x] [.string d.name, b, c'] (xs0.drop ((k + 1) * 3)) rfl, Nat.add_zero, hyl'] at s
      rw [List.append_assoc, ← s]
      show _ = (((ys ++ ([.string d.name, b, c'] ++ xs0.drop ((k + 1) * 3))).set (k * 3) (.string d.name)).set (k * 3 + 1) u).set (k * 3 + 2) x
      have e0 : (ys ++ ([.string d.name, b, c'] ++ xs0.drop ((k + 1) * 3))).set (k * 3) (.string d.name) = ys ++ ([.string d.name, b, c'] ++ xs0.drop ((k + 1) * 3)) := by
        rw [List.set_append_right (k * 3) (Value.string d.name) (by omega), hyl', Nat.sub_self]
        rfl
      rw [e0]
  rw [hx] at o2
  refine ⟨?_, ?_, hs _ (by decide) _ _ _ h.q, hs _ (by decide) _ _ _ h.r, o2, ?_, h.t.same (hs _ (by decide)), h.dd.snoc hyl' (fun i y b hy hb2 => by
    have h1 := h.o.flt i y b hy hb2
    intro h2
    have := (a5.lt b h2).1
    omega)⟩
  · exact ((h.b.trans (hb.mono h.b.size)).setCell (p := ⟨gb, _, none⟩) hgb _).setCell (p := ⟨gb, _, none⟩) hgb _
  · have := hb.size
    simp [World.setCell]; omega
  · rw [take_snoc hd]
    exact (h.o.same (hs _ (by decide)) (hs _ (by decide))).snoc h1 a2 ((a3.same (hs2 _ (by decide))).mono (by omega)) a4 ((a5.same (hs2 _ (by decide))).mono (by omega))
end Go.Proofs.YtkegnmclhkpbkaaGreat
