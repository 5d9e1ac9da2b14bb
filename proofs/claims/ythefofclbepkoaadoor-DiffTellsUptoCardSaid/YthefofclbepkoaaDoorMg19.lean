/- Parts: RfB, Qg, DifA. -/
import Derived.Test.YthefofclbepkoaaDoorMg18
import Derived.Test.YthefofclbepkoaaDoorMg11
import Derived.Deep.DeepCutAuto
import Derived.Test.YthefofclbepkoaaDoorMg04
import Derived.Test.YthefofclbepkoaaDoorMg15
/- Contracts of the references: kinref1.Bond, Schema, Right: what is wrong with a schema. No condition. -/
namespace Go.Proofs.YthefofclbepkoaaDoor
open Go Go.RowKit


set_option maxHeartbeats 1000000 in
theorem rbond_any (l : List Bnd) (name : ByteArray) (v : Value) (w : World) (hv : Sl bndL w v l) : Calls Tryd.prog 32 #[v, .string name] w fun e w' => e = .returned (.int .i64 (bFind l name)) ∧ w = w' := by
  obtain ⟨A, c, rfl, hlc, hcm⟩ := hv.form
  unfold maxLen at hcm
  go_enter Tryd.func32, Tryd.ntmps32
  go_wp2_with fail
  go_loop [5] (fun i => ∃ k : Nat, k ≤ l.length ∧ i = .int .i64 k ∧ Hid (∀ j x, j < k → l[j]? = some x → decide (x.name = name) = false)) (fun i => l.length - (intOf i).toNat)
  case atStart => exact ⟨0, Nat.zero_le _, rfl, fun j x hj => absurd hj (Nat.not_lt_zero _)⟩
  case round =>
    obtain ⟨k, hk, rfl, HA⟩ := hrel
    by_cases hlt : k < l.length
    · obtain ⟨d, hd⟩ : ∃ d, l[k]? = some d := ⟨_, List.getElem?_eq_getElem hlt⟩
      obtain ⟨b, o, rfl, _, c0, _⟩ := bnd_at hv hd
      have HD : Hid (l[k]? = some d) := hd
      clear hd hv
      by_cases hq0 : d.name = name
      · have hq : decide (d.name = name) = true := decide_eq_true hq0
        have HE : Hid (bFind l name = k) := by unfold Hid bFind; exact idxI_hit (p := fun k : Bnd => decide (k.name = name)) HA.out HD.out hq
        clear hq
        subst hq0
        go_wp2_with fail
        go_ret
        exact ⟨by rw [HE.out]; rfl, rfl⟩
      · have hq : decide (d.name = name) = false := decide_eq_false hq0
        have hqb : (d.name.toList == name.toList) = false := by rw [bytes_beq]; exact hq
        have HS : Hid (∀ j y, j < k + 1 → l[j]? = some y → decide (y.name = name) = false) := miss_step (p := fun k : Bnd => decide (k.name = name)) HA.out HD.out hq
        go_wp2_with fail
        go_round
        case rel => exact ⟨k + 1, by omega, by go_num, HS⟩
        case measure => simp [intOf]; omega
    · have hkl : k = l.length := by omega
      subst hkl
      have HE : Hid (bFind l name = -1) := by unfold Hid bFind; exact idxI_miss (p := fun k : Bnd => decide (k.name = name)) HA.out
      clear hv
      go_wp2_with fail
      go_ret
      exact ⟨by rw [HE.out]; rfl, rfl⟩
/-- The range of a bond, as the document says it. -/
theorem rng_ref (b : Bnd) : rngB b ↔ (b.mn < 0 ∨ 20 < b.mn ∨ b.mx < -1 ∨ 20 < b.mx ∨ (0 ≤ b.mx ∧ b.mx < b.mn)) := by
  unfold rngB
  constructor
  · rintro (h | h | ⟨h1, h2⟩)
    · exact .inl h
    · exact .inr (.inl h)
    · rcases h2 with h2 | h2
      · by_cases h3 : b.mx < -1
        · exact .inr (.inr (.inl h3))
        · exact .inr (.inr (.inr (.inr ⟨by omega, h2⟩)))
      · exact .inr (.inr (.inr (.inl h2)))
  · rintro (h | h | h | h | ⟨h1, h2⟩)
    · exact .inl h
    · exact .inr (.inl h)
    · by_cases h0 : b.mn < 0
      · exact .inl h0
      · exact .inr (.inr ⟨by omega, .inl (by omega)⟩)
    · exact .inr (.inr ⟨by omega, .inr h⟩)
    · exact .inr (.inr ⟨by omega, .inl h2⟩)
set_option maxRecDepth 100000 in
set_option maxHeartbeats 8000000 in
theorem rschema_any (s : Scm) (vk vb : Value) (w : World) (hv : ScmR w vk vb s) :
    Calls Tryd.prog 29 #[.agg #[vk, vb]] w fun e w' => e = .returned (.tuple #[.string (scmE s).1, .int .i64 (scmE s).2]) ∧ Below w.heap.size w w' := by
  obtain ⟨Ak, ck, rfl, _, _⟩ := hv.1.form
  obtain ⟨Ab, cb, rfl, hlc, hcm⟩ := hv.2.form
  have hb0 : Below w.heap.size w (w.alloc (.cells #[.slice Ak s.kinds.length ck, .slice Ab s.bonds.length cb] 25)) := (Below.refl _ _).alloc (Nat.le_refl _) _
  obtain ⟨x0, x1⟩ := cell_box2 w (.slice Ak s.kinds.length ck) (.slice Ab s.bonds.length cb) 25
  have HV := Lib.hid (hv.below hb0)
  have hck := rkinds_any s.kinds _ _ (hv.1.below hb0)
  have HE0 : Hid (scmE s = if (checkE s.kinds).2 = 0 then (if 12 < s.bonds.length then (.empty, 4) else bndsE s.kinds [] s.bonds) else checkE s.kinds) := rfl
  have hw0 := hb0.size
  clear hv
  go_enter Tryd.func29, Tryd.ntmps29
  go_wp2_with fail
  generalize w.alloc (.cells #[.slice Ak s.kinds.length ck, .slice Ab s.bonds.length cb] 25) = w0 at *
  refine hck.mono ?_
  clear hck
  rintro e w1 ⟨rfl, hb1⟩
  have hB1 := hb0.trans (hb1.mono hw0)
  have x0 := cell_below hb1 x0
  have x1 := cell_below hb1 x1
  have HV1 := Lib.hid (HV.out.below hb1)
  have hw1 := hB1.size
  generalize hce : checkE s.kinds = ce at *
  clear hce
  by_cases he : ce.2 = 0
  case neg =>
    have HF : Hid (scmE s = ce) := by unfold Hid; rw [HE0.out, if_neg he]
    have heb : (ce.2 != 0) = true := by simpa using he
    clear he HE0
    go_wp2_with fail
    go_ret2
    exact ⟨by rw [HF.out]; rfl, hB1⟩
  have HE1 : Hid (scmE s = if 12 < s.bonds.length then (.empty, 4) else bndsE s.kinds [] s.bonds) := by unfold Hid; rw [HE0.out, if_pos he]
  have heb : (ce.2 != 0) = false := by simpa using he
  clear he HE0
  by_cases h12 : 12 < s.bonds.length
  · have HF : Hid (scmE s = (.empty, 4)) := by unfold Hid; rw [HE1.out, if_pos h12]
    have h12' : (12 : Int) < (s.bonds.length : Int) := by omega
    clear HE1
    go_wp2_with fail
    go_ret2
    exact ⟨by rw [HF.out]; rfl, hB1⟩
  have HE2 : Hid (scmE s = bndsE s.kinds [] s.bonds) := by unfold Hid; rw [HE1.out, if_neg h12]
  have h12' : (s.bonds.length : Int) ≤ 12 := by omega
  clear HE1 h12
  go_wp2_with fail
  go_loopw [6] (fun i wr => ∃ k : Nat, k ≤ s.bonds.length ∧ i = .int .i64 k ∧ Below w1.heap.size w1 wr ∧ Hid (scmE s = bndsE s.kinds (s.bonds.take k) (s.bonds.drop k))) (fun i _ => s.bonds.length - (intOf i).toNat)
  case atStart => exact ⟨0, Nat.zero_le _, rfl, Below.refl _ _, HE2.out⟩
  case round =>
    clear HE2
    obtain ⟨k, hk, rfl, hb, HR⟩ := hrel
    have x0 := cell_below hb x0
    have x1 := cell_below hb x1
    have hbW := hB1.trans (hb.mono hw1)
    by_cases hlt : k < s.bonds.length
    · obtain ⟨d, hd⟩ : ∃ d, s.bonds[k]? = some d := ⟨_, List.getElem?_eq_getElem hlt⟩
      obtain ⟨gb, o, rfl, hok, q0, q1, q2, q3, q4⟩ := bnd_at (HV1.out.below hb).2 hd
      have hlt' : (k : Int) < (s.bonds.length : Int) := by omega
      have hic : (k : Int) ≤ (cb : Int) := by omega
      have hk0 : (0 : Int) ≤ (k : Int) := by omega
      obtain ⟨z0, z1, z2, z3, z4⟩ := cell_box5 wr (.string d.name) (.string d.src) (.string d.dst) (.int .i64 d.mn) (.int .i64 d.mx) 77
      have ha1 : Below wr.heap.size wr (wr.alloc (.cells #[.string d.name, .string d.src, .string d.dst, .int .i64 d.mn, .int .i64 d.mx] 77)) := (Below.refl _ _).alloc (Nat.le_refl _) _
      have hb2 := hb.trans (ha1.mono hb.size)
      have HST := Lib.hid (bndsE_step hd HR.out)
      have HB0 : Hid (bndE s.kinds (s.bonds.take k) d = if nameE d.name = 0 then (if 0 ≤ bFind (s.bonds.take k) d.name then 7 else if kFind s.kinds d.src < 0 ∨ kFind s.kinds d.dst < 0 then 5 else if rngB d then 1 else 0) else nameE d.name) := rfl
      have hrn := fun W => rname_any d.name W hok.1
      have hvt := (HV1.out.below hb2).2.take (k := k) (by omega)
      have x0 := cell_below ha1 x0
      have x1 := cell_below ha1 x1
      clear hd hok HR
      go_upto_region 10 with fail
      generalize wr.alloc (.cells #[.string d.name, .string d.src, .string d.dst, .int .i64 d.mn, .int .i64 d.mx] 77) = w2 at *
      have hBX := hB1.trans (hb2.mono hw1)
      clear q0 q1 q2 q3 q4
      by_cases hn : nameE d.name = 0
      case neg =>
        have HBE : Hid (bndE s.kinds (s.bonds.take k) d = 2) := by unfold Hid; rw [HB0.out, if_neg hn, nameE_two hn]
        have hrn2 := hrn w2
        rw [nameE_two hn] at hrn2
        clear hrn hn HB0 hvt
        go_wp2_with fail
        refine hrn2.mono ?_
        clear hrn2
        rintro e w' ⟨rfl, rfl⟩
        -- 2: which fault
        have HE : Hid (scmE s = (d.name, 2)) := by unfold Hid; rw [HST.out, if_neg (by rw [HBE.out]; decide), HBE.out]
        clear HST HBE
        go_wp2_with fail
        go_ret2
        exact ⟨by rw [HE.out]; rfl, hBX⟩
      have hrn2 := hrn w2
      rw [hn] at hrn2
      have HB1 : Hid (bndE s.kinds (s.bonds.take k) d = if 0 ≤ bFind (s.bonds.take k) d.name then 7 else if kFind s.kinds d.src < 0 ∨ kFind s.kinds d.dst < 0 then 5 else if rngB d then 1 else 0) := by unfold Hid; rw [HB0.out, if_pos hn]
      clear hrn hn HB0
      go_wp2_with fail
      refine hrn2.mono ?_
      clear hrn2
      rintro e w' ⟨rfl, rfl⟩
      go_wp2_with fail
      refine wp_mid_k 6 _ rfl rfl (by kernel_rfl) (by kernel_rfl) ?_
      simp only [List.take_succ_cons, List.take_zero, List.drop_succ_cons, List.drop_zero]
      repeat (go_big_quiet_step (fail))
      refine wpQuiet_nil ?_
      intro _ hw'
      obtain ⟨nq, hw''⟩ := hw'
      subst hw''
      intro K hK
      have hbd := below_drewN (Below.refl w2.heap.size w2) nq
      have hkf := rbond_any (s.bonds.take k) d.name _ (w2.drewN nq) (hvt.below hbd)
      clear hvt
      go_wp2_with fail
      refine hkf.mono ?_
      clear hkf
      rintro e w' ⟨rfl, rfl⟩
      generalize hzz : bFind (s.bonds.take k) d.name = z at *
      clear hzz
      refine hK _ _ ?_
      repeat (go_big_quiet_step (fail))
      refine wpQuiet_nil ?_
      intro _ hw'
      obtain ⟨nq2, hw''⟩ := hw'
      subst hw''
      clear hK
      have hbd2 := below_drewN hbd nq2
      generalize (w2.drewN nq).drewN nq2 = w3 at *
      have x0 := cell_below hbd2 x0
      have x1 := cell_below hbd2 x1
      have z0 := cell_below hbd2 z0
      have z1 := cell_below hbd2 z1
      have z2 := cell_below hbd2 z2
      have z3 := cell_below hbd2 z3
      have z4 := cell_below hbd2 z4
      have hb4 := hb2.trans (hbd2.mono hb2.size)
      have hBX := hB1.trans (hb4.mono hw1)
      clear hbd hbd2 hb2
      by_cases hz : 0 ≤ z
      · have HBE : Hid (bndE s.kinds (s.bonds.take k) d = 7) := by unfold Hid; rw [HB1.out, if_pos hz]
        clear HB1
        -- 7: which fault
        have HE : Hid (scmE s = (d.name, 7)) := by unfold Hid; rw [HST.out, if_neg (by rw [HBE.out]; decide), HBE.out]
        clear HST HBE
        go_wp2_with fail
        go_ret2
        exact ⟨by rw [HE.out]; rfl, hBX⟩
      have hz' : z < 0 := by omega
      have HB2 : Hid (bndE s.kinds (s.bonds.take k) d = if kFind s.kinds d.src < 0 ∨ kFind s.kinds d.dst < 0 then 5 else if rngB d then 1 else 0) := by unfold Hid; rw [HB1.out, if_neg hz]
      have hk1 := rkind_any s.kinds d.src _ w3 (HV1.out.below hb4).1
      have hk2 := rkind_any s.kinds d.dst _ w3 (HV1.out.below hb4).1
      clear HB1 hz
      generalize kFind s.kinds d.src = k1 at *
      generalize kFind s.kinds d.dst = k2 at *
      go_wp2_with fail
      refine hk1.mono ?_
      clear hk1
      rintro e w' ⟨rfl, rfl⟩
      by_cases hs : k1 < 0
      · have HBE : Hid (bndE s.kinds (s.bonds.take k) d = 5) := by unfold Hid; rw [HB2.out, if_pos (.inl hs)]
        clear HB2 hk2
        -- 5: which fault
        have HE : Hid (scmE s = (d.name, 5)) := by unfold Hid; rw [HST.out, if_neg (by rw [HBE.out]; decide), HBE.out]
        clear HST HBE
        go_wp2_with fail
        go_ret2
        exact ⟨by rw [HE.out]; rfl, hBX⟩
      have hs' : 0 ≤ k1 := by omega
      have hsd : decide (k1 < 0) = false := decide_eq_false hs
      go_wp2_with fail
      refine hk2.mono ?_
      clear hk2
      rintro e w' ⟨rfl, rfl⟩
      by_cases ht : k2 < 0
      · have HBE : Hid (bndE s.kinds (s.bonds.take k) d = 5) := by unfold Hid; rw [HB2.out, if_pos (.inr ht)]
        clear HB2 hs
        -- 5: which fault
        have HE : Hid (scmE s = (d.name, 5)) := by unfold Hid; rw [HST.out, if_neg (by rw [HBE.out]; decide), HBE.out]
        clear HST HBE
        go_wp2_with fail
        go_ret2
        exact ⟨by rw [HE.out]; rfl, hBX⟩
      have ht' : 0 ≤ k2 := by omega
      have HB3 : Hid (bndE s.kinds (s.bonds.take k) d = if rngB d then 1 else 0) := by unfold Hid; rw [HB2.out, if_neg (by omega)]
      have HRNG : True := trivial
      clear HB2 hs ht hsd
      by_cases r1 : d.mn < 0
      · have HBE : Hid (bndE s.kinds (s.bonds.take k) d = 1) := by unfold Hid; rw [HB3.out, if_pos ((rng_ref d).2 (.inl r1))]
        clear HB3 HRNG
        -- 1: which fault
        have HE : Hid (scmE s = (d.name, 1)) := by unfold Hid; rw [HST.out, if_neg (by rw [HBE.out]; decide), HBE.out]
        clear HST HBE
        go_wp2_with fail
        go_ret2
        exact ⟨by rw [HE.out]; rfl, hBX⟩
      have r1' : 0 ≤ d.mn := by omega
      by_cases r2 : 20 < d.mn
      · clear r1
        have HBE : Hid (bndE s.kinds (s.bonds.take k) d = 1) := by unfold Hid; rw [HB3.out, if_pos ((rng_ref d).2 (.inr (.inl r2)))]
        clear HB3 HRNG
        -- 1: which fault
        have HE : Hid (scmE s = (d.name, 1)) := by unfold Hid; rw [HST.out, if_neg (by rw [HBE.out]; decide), HBE.out]
        clear HST HBE
        go_wp2_with fail
        go_ret2
        exact ⟨by rw [HE.out]; rfl, hBX⟩
      have r2' : d.mn ≤ 20 := by omega
      by_cases r3 : d.mx < -1
      · clear r1 r2
        have HBE : Hid (bndE s.kinds (s.bonds.take k) d = 1) := by unfold Hid; rw [HB3.out, if_pos ((rng_ref d).2 (.inr (.inr (.inl r3))))]
        clear HB3 HRNG
        -- 1: which fault
        have HE : Hid (scmE s = (d.name, 1)) := by unfold Hid; rw [HST.out, if_neg (by rw [HBE.out]; decide), HBE.out]
        clear HST HBE
        go_wp2_with fail
        go_ret2
        exact ⟨by rw [HE.out]; rfl, hBX⟩
      have r3' : -1 ≤ d.mx := by omega
      by_cases r4 : 20 < d.mx
      · clear r1 r2 r3
        have HBE : Hid (bndE s.kinds (s.bonds.take k) d = 1) := by unfold Hid; rw [HB3.out, if_pos ((rng_ref d).2 (.inr (.inr (.inr (.inl r4)))))]
        clear HB3 HRNG
        -- 1: which fault
        have HE : Hid (scmE s = (d.name, 1)) := by unfold Hid; rw [HST.out, if_neg (by rw [HBE.out]; decide), HBE.out]
        clear HST HBE
        go_wp2_with fail
        go_ret2
        exact ⟨by rw [HE.out]; rfl, hBX⟩
      have r4' : d.mx ≤ 20 := by omega
      by_cases r5 : 0 ≤ d.mx
      · by_cases r6 : d.mx < d.mn
        · clear r1 r2 r3 r4
          have HBE : Hid (bndE s.kinds (s.bonds.take k) d = 1) := by unfold Hid; rw [HB3.out, if_pos ((rng_ref d).2 (.inr (.inr (.inr (.inr ⟨r5, r6⟩)))))]
          clear HB3 HRNG
          -- 1: which fault
          have HE : Hid (scmE s = (d.name, 1)) := by unfold Hid; rw [HST.out, if_neg (by rw [HBE.out]; decide), HBE.out]
          clear HST HBE
          go_wp2_with fail
          go_ret2
          exact ⟨by rw [HE.out]; rfl, hBX⟩
        · have r6' : d.mn ≤ d.mx := by omega
          clear r1 r2 r3 r4 r6
          have HN : Hid (scmE s = bndsE s.kinds (s.bonds.take (k + 1)) (s.bonds.drop (k + 1))) := by
            have h0 : bndE s.kinds (s.bonds.take k) d = 0 := by rw [HB3.out, if_neg (fun h => absurd ((rng_ref d).1 h) (by omega))]
            unfold Hid; rw [HST.out, if_pos h0]
          clear HST HB3 HRNG
          go_wp2_with fail
          go_roundw
          case rel => exact ⟨k + 1, by omega, by go_num, hb4, HN⟩
          case measure => simp [intOf]; omega
      · have r5' : d.mx < 0 := by omega
        clear r1 r2 r3 r4 r5
        have HN : Hid (scmE s = bndsE s.kinds (s.bonds.take (k + 1)) (s.bonds.drop (k + 1))) := by
          have h0 : bndE s.kinds (s.bonds.take k) d = 0 := by rw [HB3.out, if_neg (fun h => absurd ((rng_ref d).1 h) (by omega))]
          unfold Hid; rw [HST.out, if_pos h0]
        clear HST HB3 HRNG
        go_wp2_with fail
        go_roundw
        case rel => exact ⟨k + 1, by omega, by go_num, hb4, HN⟩
        case measure => simp [intOf]; omega
    · obtain rfl : k = s.bonds.length := by omega
      have HE : Hid (scmE s = (.empty, 0)) := by unfold Hid; rw [HR.out, List.drop_length]; rfl
      clear HR
      go_wp2_with fail
      go_ret2
      exact ⟨by rw [HE.out]; rfl, hbW⟩
theorem rright_any (s : Scm) (vk vb : Value) (w : World) (hv : ScmR w vk vb s) : Calls Tryd.prog 7 #[.agg #[vk, vb]] w fun e w' => e = .returned (.int .i64 (scmE s).2) ∧ Below w.heap.size w w' := by
  have hb0 : Below w.heap.size w (w.alloc (.cells #[vk, vb] 25)) := (Below.refl _ _).alloc (Nat.le_refl _) _
  have h1 := rschema_any s vk vb _ (hv.below hb0)
  obtain ⟨z, hz⟩ : ∃ z, z = scmE s := ⟨_, rfl⟩
  rw [← hz] at h1
  have HZ := Lib.hid hz
  obtain ⟨A, c, rfl, _, _⟩ := hv.1.form
  obtain ⟨A', c', rfl, _, _⟩ := hv.2.form
  clear hv hz
  go_enter Tryd.func7, Tryd.ntmps7
  go_wp2_with fail
  refine h1.mono ?_
  clear h1
  rintro e w2 ⟨rfl, hb2⟩
  go_wp2_with fail
  go_ret
  exact ⟨by rw [← HZ.out]; rfl, hb0.trans (hb2.mono (by simp))⟩
end Go.Proofs.YthefofclbepkoaaDoor

/- As Qm: the operation in the middle may be guarded; its guard lets it be done. Conditions: the Bool on the region. -/
namespace Go.Proofs.YthefofclbepkoaaDoor
open Go Go.RowKit Go.Sort
section
variable {P : Program} {ops : Array Oper} {md : Region.Mode} {C : World → Prop}
theorem wp_region_midg {id : Nat} {Q : Exit → Act → World → Prop} {a : Act} {w : World} {l : List Oper} (n : Nat) (om : Oper) (hom : l[n]? = some om) (hm : P.follows .mixedOrders = true) (hB : midB .any l.toArray n = true)
    (hC : C { w with drawn := w.drawn + 1 })
    (h : wpQuiet P l.toArray C (fun a' => Region.wanted om (yielded l.toArray a'.tmps) = true ∧ ∀ w', C w' → om.wp P a' w' (fun a2 w2 => wpQuiet P l.toArray (fun x => ∃ n, x = w2.drewN n) (fun a3 => ∀ w3, (∃ n, w3 = w2.drewN n) → Q .normal a3 w3) (l.drop (n + 1)) a2) Q) (l.take n) a) : (Code.region id l.toArray true).wp P Q a w := by
  simp only [midB, Bool.and_eq_true, decide_eq_true_eq] at hB
  obtain ⟨⟨⟨⟨hsel, hn⟩, hs⟩, hc⟩, hlex⟩ := hB
  have hn' : n < l.length := by simpa using hn
  have htl : (l.take n).length = n := by simp; omega
  have hdl : (l.drop (n + 1)).length = l.toArray.size - n - 1 := by simp; omega
  have inv0 : HeadInv .any l.toArray n (Array.replicate l.toArray.size false) :=
    ⟨by simp, fun j oj _ hl => (by rw [getD_replicate_false] at hl; cases hl), fun t _ ht => getD_in (by simpa using ht) (getD_replicate_false _ _)⟩
  have H := wpAnyLQ_lex2 (C := C) (md := .any) (g := l.toArray.size - n - 1) hsel hs hc hn (l.take n) 0 _ a (fun j hj => by
    have hj' : j < n := by rw [htl] at hj; exact hj
    simp [hj']) (by simpa using htl) inv0 (by rw [htl]; exact hlex) h
  refine wp_region_any hm ?_
  have key := wpAny_of_headQ (C := C) (Q' := Q) (g := l.toArray.size - n - 1 + 1) (fun listed a' w' hw' hL => by
    have h1 := hL.1
    simp only [midRest, Bool.and_eq_true, decide_eq_true_eq] at h1
    refine ⟨fun h0 => (by rw [h1.1] at h0; cases h0), fun i hi => ?_⟩
    rw [h1.1] at hi
    obtain rfl : i = n := by simpa using hi
    have h0 : l.toArray[i]? = some om := by simpa using hom
    unfold wpOp
    simp only [h0]
    have hw := hL.2.1
    simp only [hw, if_true]
    refine .inl ?_
    have h2 := hL.2.2 w' hw'
    unfold Oper.wp at h2 ⊢
    generalize (execOp a'.eval om).run P w' = r at h2 ⊢
    have step : ∀ a2 w2, wpQuiet P l.toArray (fun x => ∃ n, x = w2.drewN n) (fun a3 => ∀ w3, (∃ n, w3 = w2.drewN n) → Q .normal a3 w3) (l.drop (i + 1)) a2 →
        wpAny P .any l.toArray Q (l.toArray.size - i - 1) (listed.setIfInBounds i true) a2 w2 := fun a2 w2 hq => by
      have h3 := wpAnyQ_lex (C := fun x => ∃ n, x = w2.drewN n) (md := .any) hsel (l.drop (i + 1)) (i + 1) (listed.setIfInBounds i true) a2 (fun j => by simp [List.getElem?_drop]) (by rw [hdl]; exact h1.2) hq
      rw [hdl] at h3
      exact wpAny_of_quiet (Q := fun a3 => ∀ w3, (∃ n, w3 = w2.drewN n) → Q .normal a3 w3) (fun _ w3 hw3 h => h w3 hw3) _ _ _ _ ⟨0, rfl⟩ h3
    cases r with
    | ok nx w2 =>
      cases nx <;> simp only [Oper.upon] at h2 ⊢
      case value v => exact step _ _ h2
      case skip => exact step _ _ h2
      case defer d => exact step _ _ h2
      case enter f args =>
        refine h2.mono fun e w3 h3 => ?_
        cases e with
        | returned v => exact step _ _ h3
        | panicked c => exact h3
        | outgrown => exact h3
      case row r args => exact h2.mono fun v w3 h3 => step _ _ h3
      all_goals first | exact h2.elim | exact h2
    | halt hh w2 =>
      cases hh <;> simp only [Oper.upon] at h2 ⊢
      all_goals first | exact h2 | exact h2.elim) _ _ _ _ hC H
  rw [htl, show n + (l.toArray.size - n - 1 + 1) = l.toArray.size by simp only [List.size_toArray]; omega] at key
  exact key

theorem wp_mid_g {id : Nat} {Q : Exit → Act → World → Prop} {a : Act} {w : World} {l : List Oper} (n : Nat) (om : Oper) (hom : l[n]? = some om) (hm : P.follows .mixedOrders = true) (hB : midB .any l.toArray n = true)
    (h : wpQuiet P l.toArray (fun w' => ∃ n, w' = w.drewN n) (fun a' => Region.wanted om (yielded l.toArray a'.tmps) = true ∧ ∀ w', (∃ n, w' = w.drewN n) → ∀ K : Act → World → Prop, (∀ a2 w2, wpQuiet P l.toArray (fun x => ∃ n, x = w2.drewN n) (fun a3 => ∀ w3, (∃ n, w3 = w2.drewN n) → Q .normal a3 w3) (l.drop (n + 1)) a2 → K a2 w2) → om.wp P a' w' K Q) (l.take n) a) : (Code.region id l.toArray true).wp P Q a w :=
  wp_region_midg (C := fun w' => ∃ n, w' = w.drewN n) n om hom hm hB ⟨1, rfl⟩ (wpQuiet_mono (fun _ h => ⟨h.1, fun w' hw' => h.2 w' hw' _ fun _ _ h => h⟩) _ _ h)
end
end Go.Proofs.YthefofclbepkoaaDoor

/- Contracts: slices.Equal at texts and fields, slices.Index and slices.Contains at bonds, diff.both, diff.equal, diff.wider. No condition. -/
namespace Go.Proofs.YthefofclbepkoaaDoor
open Go Go.RowKit



set_option maxHeartbeats 1000000 in
theorem eqStrs_any_q (a b : List ByteArray) (va vb : Value) (w : World) (ha : Sl strL w va a) (hb : Sl strL w vb b) : Calls Tryd.prog 40 #[va, vb] w fun e w' => e = .returned (.bool (decide (a = b))) ∧ ∃ m, w' = w.drewN m := by
  obtain ⟨A, c, rfl, _, hcm⟩ := ha.form
  obtain ⟨B, d, rfl, _, hdm⟩ := hb.form
  unfold maxLen at hcm hdm
  by_cases hl : a.length = b.length
  case neg =>
    have HE : Hid (decide (a = b) = false) := decide_eq_false fun e => hl (by rw [e])
    have hl' : decide ((a.length : Int) = (b.length : Int)) = false := decide_eq_false (by omega)
    have hl2 : ((a.length : Int) == (b.length : Int)) = false := by rw [beq_eq_false_iff_ne]; omega
    clear ha hb hl
    go_enter Tryd.func40, Tryd.ntmps40
    go_wp2_with fail
    go_ret
    exact ⟨by rw [HE.out]; rfl, 0, rfl⟩
  have HL := Lib.hid hl
  have hlb : a.length ≤ b.length := by omega
  rw [← hl]
  clear hl
  go_enter Tryd.func40, Tryd.ntmps40
  go_wp2_with fail
  go_loopw [13] (fun i wr => ∃ k : Nat, k ≤ a.length ∧ i = .int .i64 k ∧ Below w.heap.size w wr ∧ Hid (∃ m, wr = w.drewN m) ∧ Hid (∀ j x y, j < k → a[j]? = some x → b[j]? = some y → x = y)) (fun i _ => a.length - (intOf i).toNat)
  case atStart => exact ⟨0, Nat.zero_le _, rfl, Below.refl _ _, ⟨0, rfl⟩, fun j x y hj => absurd hj (Nat.not_lt_zero _)⟩
  case round =>
    obtain ⟨k, hk, rfl, hbr, HM, HA⟩ := hrel
    by_cases hlt : k < a.length
    · obtain ⟨x, hx⟩ : ∃ d, a[k]? = some d := ⟨_, List.getElem?_eq_getElem hlt⟩
      obtain ⟨y, hy⟩ : ∃ d, b[k]? = some d := ⟨_, List.getElem?_eq_getElem (by omega)⟩
      have hlt' : (k : Int) < (a.length : Int) := by omega
      obtain ⟨b1, o1, rfl, _, x0⟩ := str_at (ha.below hbr) hx
      obtain ⟨b2, o2, rfl, _, y0⟩ := str_at (hb.below hbr) hy
      have HX := Lib.hid hx
      have HY := Lib.hid hy
      clear hx hy
      by_cases hq : x = y
      · have HS : Hid (∀ j x y, j < k + 1 → a[j]? = some x → b[j]? = some y → x = y) := fun j p q hj hp hq2 => by
          by_cases hjk : j = k
          · subst hjk
            have e1 := HX.out.symm.trans hp
            have e2 := HY.out.symm.trans hq2
            injection e1 with e1; injection e2 with e2
            rw [← e1, ← e2]; exact hq
          · exact HA.out j p q (by omega) hp hq2
        subst hq
        clear ha hb
        go_wp2_with fail
        go_quiet (fail)
        go_wp2_with fail
        go_roundw
        case rel => exact ⟨k + 1, by omega, by go_num, below_drewN hbr _, drewN_step HM.out nq, HS⟩
        case measure => simp [intOf]; omega
      · have HE : Hid (decide (a = b) = false) := decide_eq_false fun e => by
          have e1 := HX.out
          rw [e, HY.out] at e1
          injection e1 with e1
          exact hq e1.symm
        have hqb : (x.toList == y.toList) = false := by rw [bytes_beq]; exact decide_eq_false hq
        have hqc : ¬ x.toList = y.toList := by rw [bytes_eq]; exact hq
        clear ha hb hq
        go_wp2_with fail
        go_quiet (fail)
        go_wp2_with fail
        go_ret
        exact ⟨by rw [HE.out]; rfl, drewN_step HM.out nq⟩
    · obtain rfl : k = a.length := by omega
      have HE : Hid (decide (a = b) = true) := decide_eq_true (lists_eq HL.out HA.out)
      clear ha hb
      go_wp2_with fail
      go_ret
      exact ⟨by rw [HE.out]; rfl, HM.out⟩
theorem eqStrs_any (a b : List ByteArray) (va vb : Value) (w : World) (ha : Sl strL w va a) (hb : Sl strL w vb b) : Calls Tryd.prog 40 #[va, vb] w fun e w' => e = .returned (.bool (decide (a = b))) ∧ Below w.heap.size w w' :=
  (eqStrs_any_q a b va vb w ha hb).mono fun _ _ ⟨h, m, hm⟩ => ⟨h, by rw [hm]; exact below_drewN (Below.refl _ _) m⟩
set_option maxHeartbeats 1000000 in
theorem eqFlds_any_q (a b : List Fld) (va vb : Value) (w : World) (ha : Sl fldL w va a) (hb : Sl fldL w vb b) : Calls Tryd.prog 72 #[va, vb] w fun e w' => e = .returned (.bool (decide (a = b))) ∧ ∃ m, w' = w.drewN m := by
  obtain ⟨A, c, rfl, _, hcm⟩ := ha.form
  obtain ⟨B, d, rfl, _, hdm⟩ := hb.form
  unfold maxLen at hcm hdm
  by_cases hl : a.length = b.length
  case neg =>
    have HE : Hid (decide (a = b) = false) := decide_eq_false fun e => hl (by rw [e])
    have hl' : decide ((a.length : Int) = (b.length : Int)) = false := decide_eq_false (by omega)
    have hl2 : ((a.length : Int) == (b.length : Int)) = false := by rw [beq_eq_false_iff_ne]; omega
    clear ha hb hl
    go_enter Tryd.func72, Tryd.ntmps72
    go_wp2_with fail
    go_ret
    exact ⟨by rw [HE.out]; rfl, 0, rfl⟩
  have HL := Lib.hid hl
  have hlb : a.length ≤ b.length := by omega
  rw [← hl]
  clear hl
  go_enter Tryd.func72, Tryd.ntmps72
  go_wp2_with fail
  go_loopw [13] (fun i wr => ∃ k : Nat, k ≤ a.length ∧ i = .int .i64 k ∧ Below w.heap.size w wr ∧ Hid (∃ m, wr = w.drewN m) ∧ Hid (∀ j x y, j < k → a[j]? = some x → b[j]? = some y → x = y)) (fun i _ => a.length - (intOf i).toNat)
  case atStart => exact ⟨0, Nat.zero_le _, rfl, Below.refl _ _, ⟨0, rfl⟩, fun j x y hj => absurd hj (Nat.not_lt_zero _)⟩
  case round =>
    obtain ⟨k, hk, rfl, hbr, HM, HA⟩ := hrel
    by_cases hlt : k < a.length
    · obtain ⟨x, hx⟩ : ∃ d, a[k]? = some d := ⟨_, List.getElem?_eq_getElem hlt⟩
      obtain ⟨y, hy⟩ : ∃ d, b[k]? = some d := ⟨_, List.getElem?_eq_getElem (by omega)⟩
      have hlt' : (k : Int) < (a.length : Int) := by omega
      obtain ⟨b1, o1, rfl, _, x0, x1, x2, x3⟩ := fld_at (ha.below hbr) hx
      obtain ⟨b2, o2, rfl, _, y0, y1, y2, y3⟩ := fld_at (hb.below hbr) hy
      have hneq := fld_neq x y
      have hgd := fld_guard
      have HX := Lib.hid hx
      have HY := Lib.hid hy
      clear hx hy
      by_cases hq : x = y
      · have HS : Hid (∀ j x y, j < k + 1 → a[j]? = some x → b[j]? = some y → x = y) := fun j p q hj hp hq2 => by
          by_cases hjk : j = k
          · subst hjk
            have e1 := HX.out.symm.trans hp
            have e2 := HY.out.symm.trans hq2
            injection e1 with e1; injection e2 with e2
            rw [← e1, ← e2]; exact hq
          · exact HA.out j p q (by omega) hp hq2
        rw [decide_eq_true hq] at hneq
        clear ha hb hq
        go_wp2_with fail
        go_quiet (fail)
        go_wp2_with fail
        go_roundw
        case rel => exact ⟨k + 1, by omega, by go_num, below_drewN hbr _, drewN_step HM.out nq, HS⟩
        case measure => simp [intOf]; omega
      · have HE : Hid (decide (a = b) = false) := decide_eq_false fun e => by
          have e1 := HX.out
          rw [e, HY.out] at e1
          injection e1 with e1
          exact hq e1.symm
        rw [decide_eq_false hq] at hneq
        clear ha hb hq
        go_wp2_with fail
        go_quiet (fail)
        go_wp2_with fail
        go_ret
        exact ⟨by rw [HE.out]; rfl, drewN_step HM.out nq⟩
    · obtain rfl : k = a.length := by omega
      have HE : Hid (decide (a = b) = true) := decide_eq_true (lists_eq HL.out HA.out)
      clear ha hb
      go_wp2_with fail
      go_ret
      exact ⟨by rw [HE.out]; rfl, HM.out⟩
theorem eqFlds_any (a b : List Fld) (va vb : Value) (w : World) (ha : Sl fldL w va a) (hb : Sl fldL w vb b) : Calls Tryd.prog 72 #[va, vb] w fun e w' => e = .returned (.bool (decide (a = b))) ∧ Below w.heap.size w w' :=
  (eqFlds_any_q a b va vb w ha hb).mono fun _ _ ⟨h, m, hm⟩ => ⟨h, by rw [hm]; exact below_drewN (Below.refl _ _) m⟩

theorem bnd_eql (x y : Bnd) (w : World) : (binOp .eql 77 (.agg #[.string x.name, .string x.src, .string x.dst, .int .i64 x.mn, .int .i64 x.mx]) (.agg #[.string y.name, .string y.src, .string y.dst, .int .i64 y.mn, .int .i64 y.mx])).run Tryd.prog w = .ok (.bool (decide (x = y))) w := by
  rw [run_eql_struct, show (10000 : Nat) = 9998 + 2 from rfl, bnd_same]; rfl
set_option maxHeartbeats 1000000 in
theorem indexBnd_any (l : List Bnd) (x : Bnd) (v : Value) (w : World) (hv : Sl bndL w v l) :
    Calls Tryd.prog 73 #[v, .agg #[.string x.name, .string x.src, .string x.dst, .int .i64 x.mn, .int .i64 x.mx]] w fun e w' => e = .returned (.int .i64 (idxI (fun y => decide (x = y)) l)) ∧ Below w.heap.size w w' := by
  obtain ⟨A, c, rfl, hlc, hcm⟩ := hv.form
  unfold maxLen at hcm
  have hb0 : Below w.heap.size w (w.alloc (.cells #[.string x.name, .string x.src, .string x.dst, .int .i64 x.mn, .int .i64 x.mx] 77)) := (Below.refl _ _).alloc (Nat.le_refl _) _
  obtain ⟨x0, x1, x2, x3, x4⟩ := cell_box5 w (.string x.name) (.string x.src) (.string x.dst) (.int .i64 x.mn) (.int .i64 x.mx) 77
  generalize hW0 : w.alloc (.cells #[.string x.name, .string x.src, .string x.dst, .int .i64 x.mn, .int .i64 x.mx] 77) = W0 at *
  have HV := Lib.hid (hv.below hb0)
  have hw0 := hb0.size
  clear hv
  go_enter Tryd.func73, Tryd.ntmps73
  go_wp2_with fail
  clear hW0
  go_loopw [8] (fun i wr => ∃ k : Nat, k ≤ l.length ∧ i = .int .i64 k ∧ Below W0.heap.size W0 wr ∧ Hid (∀ j y, j < k → l[j]? = some y → decide (x = y) = false)) (fun i _ => l.length - (intOf i).toNat)
  case atStart => exact ⟨0, Nat.zero_le _, rfl, Below.refl _ _, fun j x hj => absurd hj (Nat.not_lt_zero _)⟩
  case round =>
    obtain ⟨k, hk, rfl, hbr, HA⟩ := hrel
    by_cases hlt : k < l.length
    · obtain ⟨d, hd⟩ : ∃ d, l[k]? = some d := ⟨_, List.getElem?_eq_getElem hlt⟩
      obtain ⟨b, o, rfl, _, c0, c1, c2, c3, c4⟩ := bnd_at (HV.out.below hbr) hd
      have x0 := cell_below hbr x0
      have x1 := cell_below hbr x1
      have x2 := cell_below hbr x2
      have x3 := cell_below hbr x3
      have x4 := cell_below hbr x4
      have hlt' : (k : Int) < (l.length : Int) := by omega
      have HD := Lib.hid hd
      have heq := bnd_eql x d
      have hgd := bnd_guard
      have hBr := hb0.trans (hbr.mono hw0)
      by_cases hq : x = d
      · have HE : Hid (idxI (fun y => decide (x = y)) l = k) := idxI_hit HA.out HD.out (decide_eq_true hq)
        rw [decide_eq_true hq] at heq
        clear hd hq
        go_wp2_with fail
        go_quiet (fail)
        go_wp2_with fail
        go_ret
        exact ⟨by rw [HE.out]; rfl, below_drewN hBr _⟩
      · have HS : Hid (∀ j y, j < k + 1 → l[j]? = some y → decide (x = y) = false) := miss_step HA.out HD.out (decide_eq_false hq)
        rw [decide_eq_false hq] at heq
        clear hd hq
        go_wp2_with fail
        go_quiet (fail)
        go_wp2_with fail
        go_roundw
        case rel => exact ⟨k + 1, by omega, by go_num, below_drewN hbr _, HS⟩
        case measure => simp [intOf]; omega
    · have hkl : k = l.length := by omega
      subst hkl
      have HE : Hid (idxI (fun y => decide (x = y)) l = -1) := idxI_miss HA.out
      have hBr := hb0.trans (hbr.mono hw0)
      go_wp2_with fail
      go_ret
      exact ⟨by rw [HE.out]; rfl, hBr⟩
theorem containsBnd_any (l : List Bnd) (x : Bnd) (v : Value) (w : World) (hv : Sl bndL w v l) :
    Calls Tryd.prog 38 #[v, .agg #[.string x.name, .string x.src, .string x.dst, .int .i64 x.mn, .int .i64 x.mx]] w fun e w' => e = .returned (.bool (l.any fun y => decide (x = y))) ∧ Below w.heap.size w w' := by
  have hb0 : Below w.heap.size w (w.alloc (.cells #[.string x.name, .string x.src, .string x.dst, .int .i64 x.mn, .int .i64 x.mx] 77)) := (Below.refl _ _).alloc (Nat.le_refl _) _
  have h1 := indexBnd_any l x v _ (hv.below hb0)
  have h2 := idxI_any (fun y => decide (x = y)) l
  have H2 := Lib.hid h2
  obtain ⟨A, c, rfl, _, _⟩ := hv.form
  clear h2 hv
  go_enter Tryd.func38, Tryd.ntmps38
  go_wp2_with fail
  refine h1.mono ?_
  rintro e w' ⟨rfl, hb1⟩
  go_wp2_with fail
  go_ret
  exact ⟨ret_bool H2.out, hb0.trans (hb1.mono (by simp))⟩
theorem both_any (a b : Scm) (k1 b1 k2 b2 : Value) (w : World) (h1 : ScmR w k1 b1 a) (h2 : ScmR w k2 b2 b) :
    Calls Tryd.prog 35 #[.agg #[k1, b1], .agg #[k2, b2]] w fun e w' => e = .returned (errV (bothE a b)) ∧ Below w.heap.size w w' := by
  obtain ⟨A1, c1, rfl, _, _⟩ := h1.1.form
  obtain ⟨A2, c2, rfl, _, _⟩ := h1.2.form
  obtain ⟨A3, c3, rfl, _, _⟩ := h2.1.form
  obtain ⟨A4, c4, rfl, _, _⟩ := h2.2.form
  have hb0 : Below w.heap.size w ((w.alloc (.cells #[.slice A1 a.kinds.length c1, .slice A2 a.bonds.length c2] 25)).alloc (.cells #[.slice A3 b.kinds.length c3, .slice A4 b.bonds.length c4] 25)) := ((Below.refl _ _).alloc (Nat.le_refl _) _).alloc (by simp) _
  have g1 : ((w.alloc (.cells #[.slice A1 a.kinds.length c1, .slice A2 a.bonds.length c2] 25)).alloc (.cells #[.slice A3 b.kinds.length c3, .slice A4 b.bonds.length c4] 25)).heap[w.heap.size + 1]? = some (.cells #[.slice A3 b.kinds.length c3, .slice A4 b.bonds.length c4] 25 (0, 0)) := by
    have := heap_alloc_new (w.alloc (.cells #[.slice A1 a.kinds.length c1, .slice A2 a.bonds.length c2] 25)) (.cells #[.slice A3 b.kinds.length c3, .slice A4 b.bonds.length c4] 25); simpa using this
  have hr1 := sright_any a _ _ _ (h1.below hb0)
  have HB := Lib.hid h2
  have HBE : Hid (bothE a b = if (scmE a).2 = 0 then (scmE b).2 else (scmE a).2) := rfl
  have hsz : w.heap.size + 1 < ((w.alloc (.cells #[.slice A1 a.kinds.length c1, .slice A2 a.bonds.length c2] 25)).alloc (.cells #[.slice A3 b.kinds.length c3, .slice A4 b.bonds.length c4] 25)).heap.size := by simp
  have HG := Lib.hid g1
  generalize hz : (scmE a).2 = z at *
  generalize hbe : bothE a b = be at *
  clear h1 h2 g1 hz hbe
  go_enter Tryd.func35, Tryd.ntmps35
  go_wp2_with fail
  refine hr1.mono ?_
  clear hr1
  rintro e w1 ⟨rfl, hb1⟩
  have hB1 := hb0.trans (hb1.mono hb0.size)
  have g2 := (hb1.block _ hsz).trans HG.out
  by_cases he : z = 0
  case neg =>
    have HE : Hid (errV be = .iface 83 (.int .i64 z)) := by unfold Hid; rw [HBE.out, if_neg he]; exact errV_some he
    rw [errV_some he]
    clear he hsz
    go_wp2_with fail
    go_ret
    exact ⟨by rw [HE.out]; rfl, hB1⟩
  have HE : Hid (be = (scmE b).2) := by unfold Hid; rw [HBE.out, if_pos he]
  have hr2 := sright_any b _ _ w1 (HB.out.below hB1)
  have x0 := block_cell g2 0
  have x1 := block_cell g2 1
  rw [errV_zero he]
  generalize (scmE b).2 = z2 at *
  clear he hsz g2
  go_wp2_with fail
  refine hr2.mono ?_
  clear hr2
  rintro e w2 ⟨rfl, hb2⟩
  go_wp2_with fail
  go_ret
  exact ⟨by rw [HE.out]; rfl, hB1.trans (hb2.mono hB1.size)⟩
theorem equalK_any (a b : Knd) (u1 x1 u2 x2 : Value) (w : World) (ho1 : Sl strL w u1 a.ofs) (hf1 : Sl fldL w x1 a.fields) (ho2 : Sl strL w u2 b.ofs) (hf2 : Sl fldL w x2 b.fields) :
    Calls Tryd.prog 37 #[.agg #[.string a.name, u1, x1], .agg #[.string b.name, u2, x2]] w fun e w' => e = .returned (.bool (eqK a b)) ∧ Below w.heap.size w w' := by
  obtain ⟨A1, c1, rfl, _, _⟩ := ho1.form
  obtain ⟨A2, c2, rfl, _, _⟩ := hf1.form
  obtain ⟨A3, c3, rfl, _, _⟩ := ho2.form
  obtain ⟨A4, c4, rfl, _, _⟩ := hf2.form
  obtain ⟨W0, hW0⟩ : ∃ W0, W0 = (w.alloc (.cells #[.string a.name, .slice A1 a.ofs.length c1, .slice A2 a.fields.length c2] 42)).alloc (.cells #[.string b.name, .slice A3 b.ofs.length c3, .slice A4 b.fields.length c4] 42) := ⟨_, rfl⟩
  have hb0 : Below w.heap.size w W0 := by rw [hW0]; exact ((Below.refl _ _).alloc (Nat.le_refl _) _).alloc (by simp) _
  have g0 : W0.heap[w.heap.size]? = some (.cells #[.string a.name, .slice A1 a.ofs.length c1, .slice A2 a.fields.length c2] 42 (0, 0)) := by
    rw [hW0, Below.heap_alloc _ _ _ (by simp)]; exact heap_alloc_new _ _
  have g1 : W0.heap[w.heap.size + 1]? = some (.cells #[.string b.name, .slice A3 b.ofs.length c3, .slice A4 b.fields.length c4] 42 (0, 0)) := by
    have := heap_alloc_new (w.alloc (.cells #[.string a.name, .slice A1 a.ofs.length c1, .slice A2 a.fields.length c2] 42)) (.cells #[.string b.name, .slice A3 b.ofs.length c3, .slice A4 b.fields.length c4] 42); rw [hW0]; simpa using this
  have x1 := block_cell g0 1
  have x2 := block_cell g0 2
  have y1 := block_cell g1 1
  have y2 := block_cell g1 2
  have h1 := eqStrs_any a.ofs b.ofs _ _ W0 (ho1.below hb0) (ho2.below hb0)
  have HF1 := Lib.hid (hf1.below hb0)
  have HF2 := Lib.hid (hf2.below hb0)
  have hW0' := hW0.symm
  have HEK : Hid (eqK a b = (decide (a.ofs = b.ofs) && decide (a.fields = b.fields))) := rfl
  have hw0 := hb0.size
  generalize eqK a b = q at *
  clear ho1 hf1 ho2 hf2 hW0 g0 g1
  go_enter Tryd.func37, Tryd.ntmps37
  go_wp2_with fail
  refine h1.mono ?_
  clear h1 hW0'
  rintro e w1 ⟨rfl, hb1⟩
  have hB1 := hb0.trans (hb1.mono hw0)
  have x2 := cell_below hb1 x2
  have y2 := cell_below hb1 y2
  have h2 := eqFlds_any a.fields b.fields _ _ w1 (HF1.out.below hb1) (HF2.out.below hb1)
  generalize decide (a.fields = b.fields) = q2 at *
  generalize decide (a.ofs = b.ofs) = q1 at *
  clear x1 y1
  cases q1 with
  | false =>
    have HE : Hid (q = false) := by unfold Hid; rw [HEK.out]; rfl
    clear h2 HEK
    go_wp2_with fail
    go_ret
    exact ⟨by rw [HE.out]; rfl, hB1⟩
  | true =>
    have HE : Hid (q = q2) := by unfold Hid; rw [HEK.out]; rfl
    clear HEK
    go_wp2_with fail
    refine h2.mono ?_
    clear h2
    rintro e w2 ⟨rfl, hb2⟩
    go_wp2_with fail
    go_ret
    exact ⟨by rw [HE.out]; rfl, hB1.trans (hb2.mono hB1.size)⟩
end Go.Proofs.YthefofclbepkoaaDoor
