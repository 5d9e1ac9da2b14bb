/- Parts: SchB, RecT, DeltaP, CloN, Numb, GrO, OwnS, OwnT, ChA, ChP, ChB, DelD, DelT, DelO, DelK, ChC, ChD, ChE, ChF, ChG, HeldX, ChH, ChI, ChJ0, ChJ2, ChJ3, ChJ6, ChJ8, ChJ, ChQ. -/
import Derived.Test.YtgioaphnadncfaaDoorMg18
import Derived.Test.YtgioaphnadncfaaDoorMg12
import Derived.Test.YtgioaphnadncfaaDoorMg01
import Derived.Test.YtgioaphnadncfaaDoorRows
import Derived.Deep.RegionLaw
import Derived.Test.YtgioaphnadncfaaDoorMg17
import Derived.Deep.RegionHeld3
import Derived.Test.YtgioaphnadncfaaDoorMg14
import Derived.Test.YtgioaphnadncfaaDoorMg08
import Derived.OrdersHeld
/- Contracts: schema.Check, schema.Right. -/
namespace Go.Proofs.YtgioaphnadncfaaDoor
open Go Go.RowKit

theorem bndsE_step {ks : List Knd} {l : List Bnd} {k : Nat} {d : Bnd} {E : ByteArray × Int} (hd : l[k]? = some d) (h : E = bndsE ks (l.take k) (l.drop k)) :
    E = if bndE ks (l.take k) d = 0 then bndsE ks (l.take (k + 1)) (l.drop (k + 1)) else (d.name, bndE ks (l.take k) d) := by
  rw [h, drop_cons hd, bndsE, take_step hd]
def SCheckR (s : Scm) (w : World) (e : Ending) (w' : World) : Prop := e = .returned (.tuple #[.string (scmE s).1, errV (scmE s).2]) ∧ Below w.heap.size w w'
set_option maxRecDepth 100000 in
set_option maxHeartbeats 4000000 in
theorem scheck_any (s : Scm) (vk vb : Value) (w : World) (hv : ScmR w vk vb s) : Calls Tryd.prog 32 #[.agg #[vk, vb]] w (SCheckR s w) := by
  obtain ⟨Ak, ck, rfl, _, _⟩ := hv.1.form
  obtain ⟨Ab, cb, rfl, hlc, hcm⟩ := hv.2.form
  have hb0 : Below w.heap.size w (w.alloc (.cells #[.slice Ak s.kinds.length ck, .slice Ab s.bonds.length cb] 25)) := (Below.refl _ _).alloc (Nat.le_refl _) _
  obtain ⟨x0, x1⟩ := cell_box2 w (.slice Ak s.kinds.length ck) (.slice Ab s.bonds.length cb) 25
  have HV := Lib.hid (hv.below hb0)
  have hck := kcheck_any s.kinds _ _ (hv.1.below hb0)
  have HE0 : Hid (scmE s = if (checkE s.kinds).2 = 0 then (if 12 < s.bonds.length then (.empty, 4) else bndsE s.kinds [] s.bonds) else checkE s.kinds) := rfl
  have hw0 := hb0.size
  clear hv
  go_enter Tryd.func32, Tryd.ntmps32
  go_wp2_with fail
  generalize w.alloc (.cells #[.slice Ak s.kinds.length ck, .slice Ab s.bonds.length cb] 25) = w0 at *
  refine hck.mono ?_
  clear hck
  rintro e w1 ⟨rfl, hb1⟩
  have hB1 := hb0.trans (hb1.mono hw0)
  have x0 := cell_below hb1 x0
  have x1 := cell_below hb1 x1
  have HV1 := Lib.hid (HV.out.below hb1)
  have hw1 := hB1.size
  generalize hce : checkE s.kinds = ce at *
  by_cases he : ce.2 = 0
  case neg =>
    have HF : Hid (scmE s = ce) := by unfold Hid; rw [HE0.out, if_neg he]
    have HF2 : Hid (errV ce.2 = .iface 76 (.int .i64 ce.2)) := errV_some he
    rw [errV_some he]
    clear he HE0 hce
    go_wp2_with fail
    go_ret2
    exact ⟨by rw [HF.out, HF2.out]; rfl, hB1⟩
  have HE1 : Hid (scmE s = if 12 < s.bonds.length then (.empty, 4) else bndsE s.kinds [] s.bonds) := by unfold Hid; rw [HE0.out, if_pos he]
  rw [errV_zero he]
  clear he HE0 hce
  by_cases h12 : 12 < s.bonds.length
  · have HF : Hid (scmE s = (.empty, 4)) := by unfold Hid; rw [HE1.out, if_pos h12]
    have h12' : (12 : Int) < (s.bonds.length : Int) := by omega
    clear HE1
    go_wp2_with fail
    go_ret2
    exact ⟨by rw [HF.out]; rfl, hB1⟩
  have HE2 : Hid (scmE s = bndsE s.kinds [] s.bonds) := by unfold Hid; rw [HE1.out, if_neg h12]
  have h12' : (s.bonds.length : Int) ≤ 12 := by omega
  clear HE1 h12
  go_wp2_with fail
  go_loopw [27] (fun i wr => ∃ k : Nat, k ≤ s.bonds.length ∧ i = .int .i64 k ∧ Below w1.heap.size w1 wr ∧ Hid (scmE s = bndsE s.kinds (s.bonds.take k) (s.bonds.drop k))) (fun i _ => s.bonds.length - (intOf i).toNat)
  case atStart => exact ⟨0, Nat.zero_le _, rfl, Below.refl _ _, HE2.out⟩
  case round =>
    obtain ⟨k, hk, rfl, hb, HR⟩ := hrel
    have y0 := cell_below hb x0
    have y1 := cell_below hb x1
    have hBr := hB1.trans (hb.mono hw1)
    clear x0 x1
    by_cases hlt : k < s.bonds.length
    · obtain ⟨d, hd⟩ : ∃ d, s.bonds[k]? = some d := ⟨_, List.getElem?_eq_getElem hlt⟩
      have hlt' : (k : Int) < (s.bonds.length : Int) := by omega
      have HV2 := Lib.hid (HV1.out.below hb)
      obtain ⟨b, o, rfl, hok, c0, c1, c2, c3, c4⟩ := bnd_at HV2.out.2 hd
      have hbx : Below wr.heap.size wr (wr.alloc (.cells #[.string d.name, .string d.src, .string d.dst, .int .i64 d.mn, .int .i64 d.mx] 63)) := (Below.refl _ _).alloc (Nat.le_refl _) _
      obtain ⟨z0, _, _, _, _⟩ := cell_box5 wr (.string d.name) (.string d.src) (.string d.dst) (.int .i64 d.mn) (.int .i64 d.mx) 63
      have v0 := cell_below hbx y0
      have v1 := cell_below hbx y1
      have hbd := bond_any s k d _ _ _ (HV2.out.below hbx) hd
      have HS := Lib.hid (bndsE_step hd HR.out)
      generalize bndE s.kinds (s.bonds.take k) d = q at *
      clear hd HR
      go_wp2_with fail
      refine hbd.mono ?_
      clear hbd
      rintro e w3 ⟨rfl, hb3⟩
      have hB3 := hb.trans ((hbx.trans (hb3.mono hbx.size)).mono hb.size)
      have z0 := cell_below hb3 z0
      by_cases hq : q = 0
      · have HS2 : Hid (scmE s = bndsE s.kinds (s.bonds.take (k + 1)) (s.bonds.drop (k + 1))) := by unfold Hid; rw [HS.out, if_pos hq]
        rw [errV_zero hq]
        clear hq HS v0 v1 c0 c1 c2 c3 c4
        go_wp2_with fail
        go_roundw
        case rel => exact ⟨k + 1, by omega, by go_num, hB3, HS2⟩
        case measure => simp [intOf]; omega
      · have HF : Hid (scmE s = (d.name, q)) := by unfold Hid; rw [HS.out, if_neg hq]
        have HF2 : Hid (errV q = .iface 76 (.int .i64 q)) := errV_some hq
        rw [errV_some hq]
        clear hq HS v0 v1 c0 c1 c2 c3 c4
        go_wp2_with fail
        go_ret2
        exact ⟨by rw [HF.out, HF2.out]; rfl, hB1.trans (hB3.mono hw1)⟩
    · obtain rfl : k = s.bonds.length := by omega
      have HF : Hid (scmE s = (.empty, 0)) := by unfold Hid; rw [HR.out, List.drop_length]; rfl
      clear HR
      go_wp2_with fail
      go_ret2
      exact ⟨by rw [HF.out]; rfl, hBr⟩
theorem sright_any (s : Scm) (vk vb : Value) (w : World) (hv : ScmR w vk vb s) : Calls Tryd.prog 14 #[.agg #[vk, vb]] w fun e w' => e = .returned (errV (scmE s).2) ∧ Below w.heap.size w w' := by
  have hb0 : Below w.heap.size w (w.alloc (.cells #[vk, vb] 25)) := (Below.refl _ _).alloc (Nat.le_refl _) _
  have h1 := scheck_any s vk vb _ (hv.below hb0)
  obtain ⟨z, hz⟩ : ∃ z, z = errV (scmE s).2 := ⟨_, rfl⟩
  have HZ := Lib.hid hz
  obtain ⟨A, c, rfl, _, _⟩ := hv.1.form
  obtain ⟨A', c', rfl, _, _⟩ := hv.2.form
  clear hv
  go_enter Tryd.func14, Tryd.ntmps14
  go_wp2_with fail
  refine h1.mono ?_
  clear h1
  rintro e w2 ⟨he, hb2⟩
  rw [← HZ.out] at he
  subst he
  clear hz
  go_wp2_with fail
  go_ret
  exact ⟨by rw [← HZ.out]; rfl, hb0.trans (hb2.mono (by simp))⟩






/-- A step of a region that draws, as it stands. -/
theorem step_here {P : Program} {ops : Array Oper} {o : Oper} {a : Act} {w : World} {K : Act → World → Prop} {Q : Exit → Act → World → Prop} {E : Prop} (hg : o.guard = none) (h : Oper.wp P o a w K Q) :
    if Region.wanted o (yielded ops a.tmps) = true then Oper.wp P o a w K Q else E := by
  rw [if_pos (by simp [Region.wanted, hg])]; exact h






























section
variable {P : Program} {ops : Array Oper} {Q : Exit → Act → World → Prop} {md : Region.Mode} {S : World → Prop} {n : Nat}

end















theorem fldE_zero {p : Option Fld} {f : Fld} (h : fldE p f = 0) : nameE f.name = 0 ∧ ∀ q, p = some q → cmpS q.name f.name < 0 := by
  unfold fldE at h
  split at h
  · rename_i h1
    refine ⟨h1, fun q hq => ?_⟩
    subst hq
    split at h
    · split at h
      · omega
      · simp only at h
        split at h
        · rename_i hl
          rw [ltS_cmp] at hl
          simpa using hl
        · omega
    · omega
  · rename_i h1; exact absurd h h1
theorem fldsE_zero : ∀ {l : List Fld} {p : Option Fld}, fldsE p l = 0 → (∀ f ∈ l, nameE f.name = 0) ∧ Rise l ∧ (∀ q, p = some q → ∀ f ∈ l, cmpS q.name f.name < 0)
  | [], p, _ => ⟨by simp, List.Pairwise.nil, by simp⟩
  | f :: l, p, h => by
    rw [fldsE] at h
    split at h
    · rename_i h0
      obtain ⟨a1, a2⟩ := fldE_zero h0
      obtain ⟨b1, b2, b3⟩ := fldsE_zero h
      refine ⟨fun x hx => ?_, List.Pairwise.cons (fun x hx => b3 f rfl x hx) b2, fun q hq x hx => ?_⟩
      · rcases List.mem_cons.1 hx with rfl | hx
        · exact a1
        · exact b1 x hx
      · rcases List.mem_cons.1 hx with rfl | hx
        · exact a2 q hq
        · exact cmpS_trans (a2 q hq) (b3 f rfl x hx)
    · rename_i h0; exact absurd h h0
theorem Right.flds {l : List Knd} (h : Right l) {d : Knd} (hd : d ∈ l) : (∀ f ∈ d.fields, nameE f.name = 0) ∧ Rise d.fields ∧ d.fields.length ≤ 8 := by
  obtain ⟨i, hi⟩ := List.mem_iff_getElem?.1 hd
  have ho := h.one i d hi
  obtain ⟨h1, h2, _⟩ := fldsE_zero ho.fls
  exact ⟨h1, h2, ho.fll⟩
theorem bndsE_zero {ks : List Knd} : ∀ {r p : List Bnd}, (bndsE ks p r).2 = 0 → ∀ (i : Nat) b, r[i]? = some b → bndE ks (p ++ r.take i) b = 0
  | [], _, _, i, b, h => by simp at h
  | x :: r, p, h, i, b, hb => by
    rw [bndsE] at h
    split at h
    · rename_i h0
      cases i with
      | zero => simp at hb; subst hb; simpa using h0
      | succ i =>
        have := bndsE_zero h i b (by simpa using hb)
        simpa using this
    · rename_i h0; exact absurd h h0
structure BndOk (ks : List Knd) (p : List Bnd) (b : Bnd) : Prop where
  nm : nameE b.name = 0
  new : bFind p b.name < 0
  src : 0 ≤ kFind ks b.src
  dst : 0 ≤ kFind ks b.dst
  rng : ¬ rngB b
theorem bndE_zero {ks : List Knd} {p : List Bnd} {b : Bnd} (h : bndE ks p b = 0) : BndOk ks p b := by
  unfold bndE at h
  by_cases h1 : nameE b.name = 0
  · rw [if_pos h1] at h
    by_cases h2 : 0 ≤ bFind p b.name
    · rw [if_pos h2] at h; omega
    rw [if_neg h2] at h
    by_cases h3 : kFind ks b.src < 0 ∨ kFind ks b.dst < 0
    · rw [if_pos h3] at h; omega
    rw [if_neg h3] at h
    by_cases h4 : rngB b
    · rw [if_pos h4] at h; omega
    exact ⟨h1, by omega, by omega, by omega, h4⟩
  · rw [if_neg h1] at h; exact absurd h h1
/-- A schema that is right. -/
structure ScmOk (s : Scm) : Prop where
  r : Right s.kinds
  bl : s.bonds.length ≤ 12
  b : ∀ (i : Nat) b, s.bonds[i]? = some b → BndOk s.kinds (s.bonds.take i) b
theorem scmE_zero {s : Scm} (h : (scmE s).2 = 0) : ScmOk s := by
  unfold scmE at h
  split at h
  · rename_i h0
    split at h
    · simp at h
    · exact ⟨checkE_zero h0, by omega, fun i b hb => bndE_zero (by simpa using bndsE_zero h i b hb)⟩
  · rename_i h0; exact absurd h h0
/-! ### A change of a schema -/
def fz : Fld := ⟨.empty, 0, false, false⟩
end Go.Proofs.YtgioaphnadncfaaDoor
