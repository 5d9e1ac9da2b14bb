/- Parts: SchB, Chk5. -/
import Derived.Test.YthefofclbepkoaaMg14
import Derived.Test.YthefofclbepkoaaMg07
import Derived.Test.YthefofclbepkoaaMg03
/- Contracts: schema.Check, schema.Right. -/
namespace Go.Proofs.Ythefofclbepkoaa
open Go Go.RowKit

theorem bndsE_step {ks : List Knd} {l : List Bnd} {k : Nat} {d : Bnd} {E : ByteArray × Int} (hd : l[k]? = some d) (h : E = bndsE ks (l.take k) (l.drop k)) :
    E = if bndE ks (l.take k) d = 0 then bndsE ks (l.take (k + 1)) (l.drop (k + 1)) else (d.name, bndE ks (l.take k) d) := by
  rw [h, drop_cons hd, bndsE, take_step hd]
def SCheckR (s : Scm) (w : World) (e : Ending) (w' : World) : Prop := e = .returned (.tuple #[.string (scmE s).1, errV (scmE s).2]) ∧ Below w.heap.size w w'
set_option maxRecDepth 100000 in
set_option maxHeartbeats 4000000 in
theorem scheck_any (s : Scm) (vk vb : Value) (w : World) (hv : ScmR w vk vb s) : Calls Try.prog 77 #[.agg #[vk, vb]] w (SCheckR s w) := by
  obtain ⟨Ak, ck, rfl, _, _⟩ := hv.1.form
  obtain ⟨Ab, cb, rfl, hlc, hcm⟩ := hv.2.form
  have hb0 : Below w.heap.size w (w.alloc (.cells #[.slice Ak s.kinds.length ck, .slice Ab s.bonds.length cb] 68)) := (Below.refl _ _).alloc (Nat.le_refl _) _
  obtain ⟨x0, x1⟩ := cell_box2 w (.slice Ak s.kinds.length ck) (.slice Ab s.bonds.length cb) 68
  have HV := Lib.hid (hv.below hb0)
  have hck := kcheck_any s.kinds _ _ (hv.1.below hb0)
  have HE0 : Hid (scmE s = if (checkE s.kinds).2 = 0 then (if 12 < s.bonds.length then (.empty, 4) else bndsE s.kinds [] s.bonds) else checkE s.kinds) := rfl
  have hw0 := hb0.size
  clear hv
  go_enter Try.func77, Try.ntmps77
  go_wp2_with fail
  generalize w.alloc (.cells #[.slice Ak s.kinds.length ck, .slice Ab s.bonds.length cb] 68) = w0 at *
  refine hck.mono ?_
  clear hck
  rintro e w1 ⟨rfl, hb1⟩
  have hB1 := hb0.trans (hb1.mono hw0)
  have x0 := cell_below hb1 x0
  have x1 := cell_below hb1 x1
  have HV1 := Lib.hid (HV.out.below hb1)
  have hw1 := hB1.size
  generalize hce : checkE s.kinds = ce at *
  by_cases he : ce.2 = 0
  case neg =>
    have HF : Hid (scmE s = ce) := by unfold Hid; rw [HE0.out, if_neg he]
    have HF2 : Hid (errV ce.2 = .iface 82 (.int .i64 ce.2)) := errV_some he
    rw [errV_some he]
    clear he HE0 hce
    go_wp2_with fail
    go_ret2
    exact ⟨by rw [HF.out, HF2.out]; rfl, hB1⟩
  have HE1 : Hid (scmE s = if 12 < s.bonds.length then (.empty, 4) else bndsE s.kinds [] s.bonds) := by unfold Hid; rw [HE0.out, if_pos he]
  rw [errV_zero he]
  clear he HE0 hce
  by_cases h12 : 12 < s.bonds.length
  · have HF : Hid (scmE s = (.empty, 4)) := by unfold Hid; rw [HE1.out, if_pos h12]
    have h12' : (12 : Int) < (s.bonds.length : Int) := by omega
    clear HE1
    go_wp2_with fail
    go_ret2
    exact ⟨by rw [HF.out]; rfl, hB1⟩
  have HE2 : Hid (scmE s = bndsE s.kinds [] s.bonds) := by unfold Hid; rw [HE1.out, if_neg h12]
  have h12' : (s.bonds.length : Int) ≤ 12 := by omega
  clear HE1 h12
  go_wp2_with fail
  go_loopw [27] (fun i wr => ∃ k : Nat, k ≤ s.bonds.length ∧ i = .int .i64 k ∧ Below w1.heap.size w1 wr ∧ Hid (scmE s = bndsE s.kinds (s.bonds.take k) (s.bonds.drop k))) (fun i _ => s.bonds.length - (intOf i).toNat)
  case atStart => exact ⟨0, Nat.zero_le _, rfl, Below.refl _ _, HE2.out⟩
  case round =>
    obtain ⟨k, hk, rfl, hb, HR⟩ := hrel
    have y0 := cell_below hb x0
    have y1 := cell_below hb x1
    have hBr := hB1.trans (hb.mono hw1)
    clear x0 x1
    by_cases hlt : k < s.bonds.length
    · obtain ⟨d, hd⟩ : ∃ d, s.bonds[k]? = some d := ⟨_, List.getElem?_eq_getElem hlt⟩
      have hlt' : (k : Int) < (s.bonds.length : Int) := by omega
      have HV2 := Lib.hid (HV1.out.below hb)
      obtain ⟨b, o, rfl, hok, c0, c1, c2, c3, c4⟩ := bnd_at HV2.out.2 hd
      have hbx : Below wr.heap.size wr (wr.alloc (.cells #[.string d.name, .string d.src, .string d.dst, .int .i64 d.mn, .int .i64 d.mx] 107)) := (Below.refl _ _).alloc (Nat.le_refl _) _
      obtain ⟨z0, _, _, _, _⟩ := cell_box5 wr (.string d.name) (.string d.src) (.string d.dst) (.int .i64 d.mn) (.int .i64 d.mx) 107
      have v0 := cell_below hbx y0
      have v1 := cell_below hbx y1
      have hbd := bond_any s k d _ _ _ (HV2.out.below hbx) hd
      have HS := Lib.hid (bndsE_step hd HR.out)
      generalize bndE s.kinds (s.bonds.take k) d = q at *
      clear hd HR
      go_wp2_with fail
      refine hbd.mono ?_
      clear hbd
      rintro e w3 ⟨rfl, hb3⟩
      have hB3 := hb.trans ((hbx.trans (hb3.mono hbx.size)).mono hb.size)
      have z0 := cell_below hb3 z0
      by_cases hq : q = 0
      · have HS2 : Hid (scmE s = bndsE s.kinds (s.bonds.take (k + 1)) (s.bonds.drop (k + 1))) := by unfold Hid; rw [HS.out, if_pos hq]
        rw [errV_zero hq]
        clear hq HS v0 v1 c0 c1 c2 c3 c4
        go_wp2_with fail
        go_roundw
        case rel => exact ⟨k + 1, by omega, by go_num, hB3, HS2⟩
        case measure => simp [intOf]; omega
      · have HF : Hid (scmE s = (d.name, q)) := by unfold Hid; rw [HS.out, if_neg hq]
        have HF2 : Hid (errV q = .iface 82 (.int .i64 q)) := errV_some hq
        rw [errV_some hq]
        clear hq HS v0 v1 c0 c1 c2 c3 c4
        go_wp2_with fail
        go_ret2
        exact ⟨by rw [HF.out, HF2.out]; rfl, hB1.trans (hB3.mono hw1)⟩
    · obtain rfl : k = s.bonds.length := by omega
      have HF : Hid (scmE s = (.empty, 0)) := by unfold Hid; rw [HR.out, List.drop_length]; rfl
      clear HR
      go_wp2_with fail
      go_ret2
      exact ⟨by rw [HF.out]; rfl, hBr⟩
theorem sright_any (s : Scm) (vk vb : Value) (w : World) (hv : ScmR w vk vb s) : Calls Try.prog 40 #[.agg #[vk, vb]] w fun e w' => e = .returned (errV (scmE s).2) ∧ Below w.heap.size w w' := by
  have hb0 : Below w.heap.size w (w.alloc (.cells #[vk, vb] 68)) := (Below.refl _ _).alloc (Nat.le_refl _) _
  have h1 := scheck_any s vk vb _ (hv.below hb0)
  obtain ⟨z, hz⟩ : ∃ z, z = errV (scmE s).2 := ⟨_, rfl⟩
  have HZ := Lib.hid hz
  obtain ⟨A, c, rfl, _, _⟩ := hv.1.form
  obtain ⟨A', c', rfl, _, _⟩ := hv.2.form
  clear hv
  go_enter Try.func40, Try.ntmps40
  go_wp2_with fail
  refine h1.mono ?_
  clear h1
  rintro e w2 ⟨he, hb2⟩
  rw [← HZ.out] at he
  subst he
  clear hz
  go_wp2_with fail
  go_ret
  exact ⟨by rw [← HZ.out]; rfl, hb0.trans (hb2.mono (by simp))⟩
end Go.Proofs.Ythefofclbepkoaa

/- Contract: what is wrong with a schema and a graph by themselves. No condition. -/
namespace Go.Proofs.Ythefofclbepkoaa
open Go Go.RowKit

def readySG (s : Scm) (g : Grf) : Int := if (scmE s).2 = 0 then grfE g else (scmE s).2
theorem cready_any (s : Scm) (g : Grf) (vk vb vn vt : Value) (w : World) (hs : ScmR w vk vb s) (hg : GrfR w vn vt g) :
    Calls Try.prog 38 #[.agg #[vk, vb], .agg #[vn, vt]] w fun e w' => e = .returned (errV (readySG s g)) ∧ Below w.heap.size w w' := by
  obtain ⟨A1, c1, rfl, _, _⟩ := hs.1.form
  obtain ⟨A2, c2, rfl, _, _⟩ := hs.2.form
  obtain ⟨A3, c3, rfl, _, _⟩ := hg.1.form
  obtain ⟨A4, c4, rfl, _, _⟩ := hg.2.form
  obtain ⟨W0, hW0⟩ : ∃ W0, W0 = (w.alloc (.cells #[.slice A1 s.kinds.length c1, .slice A2 s.bonds.length c2] 68)).alloc (.cells #[.slice A3 g.nodes.length c3, .slice A4 g.ties.length c4] 43) := ⟨_, rfl⟩
  have hb0 : Below w.heap.size w W0 := by rw [hW0]; exact ((Below.refl _ _).alloc (Nat.le_refl _) _).alloc (by simp) _
  have g0 : W0.heap[w.heap.size]? = some (.cells #[.slice A1 s.kinds.length c1, .slice A2 s.bonds.length c2] 68 (0, 0)) := by
    rw [hW0, Below.heap_alloc _ _ _ (by simp)]; exact heap_alloc_new _ _
  have g1 : W0.heap[w.heap.size + 1]? = some (.cells #[.slice A3 g.nodes.length c3, .slice A4 g.ties.length c4] 43 (0, 0)) := by
    have := heap_alloc_new (w.alloc (.cells #[.slice A1 s.kinds.length c1, .slice A2 s.bonds.length c2] 68)) (.cells #[.slice A3 g.nodes.length c3, .slice A4 g.ties.length c4] 43); rw [hW0]; simpa using this
  have hW0' := hW0.symm
  have hr1 := sright_any s _ _ _ (hs.below hb0)
  have HG := Lib.hid hg
  have HBE : Hid (readySG s g = if (scmE s).2 = 0 then grfE g else (scmE s).2) := rfl
  have HQ := Lib.hid g1
  have x0 := block_cell g0 0
  have x1 := block_cell g0 1
  have hw0 := hb0.size
  generalize hz : (scmE s).2 = z at *
  generalize hbe : readySG s g = be at *
  clear hs hg g0 g1 hz hbe hW0
  go_enter Try.func38, Try.ntmps38
  go_wp2_with fail
  refine hr1.mono ?_
  clear hr1 hW0'
  rintro e w1 ⟨rfl, hb1⟩
  have hB1 := hb0.trans (hb1.mono hw0)
  have g2 := (hb1.block _ (Array.getElem?_eq_some_iff.1 HQ.out).1).trans HQ.out
  by_cases he : z = 0
  case neg =>
    have HE : Hid (errV be = .iface 82 (.int .i64 z)) := by unfold Hid; rw [HBE.out, if_neg he]; exact errV_some he
    rw [errV_some he]
    clear he
    go_wp2_with fail
    go_ret
    exact ⟨by rw [HE.out]; rfl, hB1⟩
  have HE : Hid (be = grfE g) := by unfold Hid; rw [HBE.out, if_pos he]
  have hr2 := grfCheck_any g _ _ w1 (HG.out.below hB1)
  have y0 := block_cell g2 0
  have y1 := block_cell g2 1
  rw [errV_zero he]
  generalize grfE g = z2 at *
  clear he g2 x0 x1
  go_wp2_with fail
  refine hr2.mono ?_
  clear hr2
  rintro e w2 ⟨rfl, hb2⟩
  go_wp2_with fail
  go_ret
  exact ⟨by rw [HE.out]; rfl, hB1.trans (hb2.mono hB1.size)⟩
end Go.Proofs.Ythefofclbepkoaa
