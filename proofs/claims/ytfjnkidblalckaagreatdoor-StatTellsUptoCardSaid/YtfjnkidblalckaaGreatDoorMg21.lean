/- Parts: RfB, RfR, RfS. -/
import Derived.Test.YtfjnkidblalckaaGreatDoorMg20
import Derived.Test.YtfjnkidblalckaaGreatDoorMg11
import Derived.Deep.DeepCutAuto
import Derived.Test.YtfjnkidblalckaaGreatDoorMg18
import Derived.Test.YtfjnkidblalckaaGreatDoorMg06
/- Contracts of the references: kinref1.Bond, Schema, Right: what is wrong with a schema. No condition. -/
namespace Go.Proofs.YtfjnkidblalckaaGreatDoor
open Go Go.RowKit


set_option maxHeartbeats 1000000 in
theorem rbond_any (l : List Bnd) (name : ByteArray) (v : Value) (w : World) (hv : Sl bndL w v l) : Calls Tryz.prog 44 #[v, .string name] w fun e w' => e = .returned (.int .i64 (bFind l name)) ∧ w = w' := by
  obtain ⟨A, c, rfl, hlc, hcm⟩ := hv.form
  unfold maxLen at hcm
  go_enter Tryz.func44, Tryz.ntmps44
  go_wp2_with fail
  go_loop [5] (fun i => ∃ k : Nat, k ≤ l.length ∧ i = .int .i64 k ∧ Hid (∀ j x, j < k → l[j]? = some x → decide (x.name = name) = false)) (fun i => l.length - (intOf i).toNat)
  case atStart => exact ⟨0, Nat.zero_le _, rfl, fun j x hj => absurd hj (Nat.not_lt_zero _)⟩
  case round =>
    obtain ⟨k, hk, rfl, HA⟩ := hrel
    by_cases hlt : k < l.length
    · obtain ⟨d, hd⟩ : ∃ d, l[k]? = some d := ⟨_, List.getElem?_eq_getElem hlt⟩
      obtain ⟨b, o, rfl, _, c0, _⟩ := bnd_at hv hd
      have HD : Hid (l[k]? = some d) := hd
      clear hd hv
      by_cases hq0 : d.name = name
      · have hq : decide (d.name = name) = true := decide_eq_true hq0
        have HE : Hid (bFind l name = k) := by unfold Hid bFind; exact idxI_hit (p := fun k : Bnd => decide (k.name = name)) HA.out HD.out hq
        clear hq
        subst hq0
        go_wp2_with fail
        go_ret
        exact ⟨by rw [HE.out]; rfl, rfl⟩
      · have hq : decide (d.name = name) = false := decide_eq_false hq0
        have hqb : (d.name.toList == name.toList) = false := by rw [bytes_beq]; exact hq
        have HS : Hid (∀ j y, j < k + 1 → l[j]? = some y → decide (y.name = name) = false) := miss_step (p := fun k : Bnd => decide (k.name = name)) HA.out HD.out hq
        go_wp2_with fail
        go_round
        case rel => exact ⟨k + 1, by omega, by go_num, HS⟩
        case measure => simp [intOf]; omega
    · have hkl : k = l.length := by omega
      subst hkl
      have HE : Hid (bFind l name = -1) := by unfold Hid bFind; exact idxI_miss (p := fun k : Bnd => decide (k.name = name)) HA.out
      clear hv
      go_wp2_with fail
      go_ret
      exact ⟨by rw [HE.out]; rfl, rfl⟩
/-- The range of a bond, as the document says it. -/
theorem rng_ref (b : Bnd) : rngB b ↔ (b.mn < 0 ∨ 20 < b.mn ∨ b.mx < -1 ∨ 20 < b.mx ∨ (0 ≤ b.mx ∧ b.mx < b.mn)) := by
  unfold rngB
  constructor
  · rintro (h | h | ⟨h1, h2⟩)
    · exact .inl h
    · exact .inr (.inl h)
    · rcases h2 with h2 | h2
      · by_cases h3 : b.mx < -1
        · exact .inr (.inr (.inl h3))
        · exact .inr (.inr (.inr (.inr ⟨by omega, h2⟩)))
      · exact .inr (.inr (.inr (.inl h2)))
  · rintro (h | h | h | h | ⟨h1, h2⟩)
    · exact .inl h
    · exact .inr (.inl h)
    · by_cases h0 : b.mn < 0
      · exact .inl h0
      · exact .inr (.inr ⟨by omega, .inl (by omega)⟩)
    · exact .inr (.inr ⟨by omega, .inr h⟩)
    · exact .inr (.inr ⟨by omega, .inl h2⟩)
set_option maxRecDepth 100000 in
set_option maxHeartbeats 8000000 in
theorem rschema_any (s : Scm) (vk vb : Value) (w : World) (hv : ScmR w vk vb s) :
    Calls Tryz.prog 29 #[.agg #[vk, vb]] w fun e w' => e = .returned (.tuple #[.string (scmE s).1, .int .i64 (scmE s).2]) ∧ Below w.heap.size w w' := by
  obtain ⟨Ak, ck, rfl, _, _⟩ := hv.1.form
  obtain ⟨Ab, cb, rfl, hlc, hcm⟩ := hv.2.form
  have hb0 : Below w.heap.size w (w.alloc (.cells #[.slice Ak s.kinds.length ck, .slice Ab s.bonds.length cb] 25)) := (Below.refl _ _).alloc (Nat.le_refl _) _
  obtain ⟨x0, x1⟩ := cell_box2 w (.slice Ak s.kinds.length ck) (.slice Ab s.bonds.length cb) 25
  have HV := Lib.hid (hv.below hb0)
  have hck := rkinds_any s.kinds _ _ (hv.1.below hb0)
  have HE0 : Hid (scmE s = if (checkE s.kinds).2 = 0 then (if 12 < s.bonds.length then (.empty, 4) else bndsE s.kinds [] s.bonds) else checkE s.kinds) := rfl
  have hw0 := hb0.size
  clear hv
  go_enter Tryz.func29, Tryz.ntmps29
  go_wp2_with fail
  generalize w.alloc (.cells #[.slice Ak s.kinds.length ck, .slice Ab s.bonds.length cb] 25) = w0 at *
  refine hck.mono ?_
  clear hck
  rintro e w1 ⟨rfl, hb1⟩
  have hB1 := hb0.trans (hb1.mono hw0)
  have x0 := cell_below hb1 x0
  have x1 := cell_below hb1 x1
  have HV1 := Lib.hid (HV.out.below hb1)
  have hw1 := hB1.size
  generalize hce : checkE s.kinds = ce at *
  clear hce
  by_cases he : ce.2 = 0
  case neg =>
    have HF : Hid (scmE s = ce) := by unfold Hid; rw [HE0.out, if_neg he]
    have heb : (ce.2 != 0) = true := by simpa using he
    clear he HE0
    go_wp2_with fail
    go_ret2
    exact ⟨by rw [HF.out]; rfl, hB1⟩
  have HE1 : Hid (scmE s = if 12 < s.bonds.length then (.empty, 4) else bndsE s.kinds [] s.bonds) := by unfold Hid; rw [HE0.out, if_pos he]
  have heb : (ce.2 != 0) = false := by simpa using he
  clear he HE0
  by_cases h12 : 12 < s.bonds.length
  · have HF : Hid (scmE s = (.empty, 4)) := by unfold Hid; rw [HE1.out, if_pos h12]
    have h12' : (12 : Int) < (s.bonds.length : Int) := by omega
    clear HE1
    go_wp2_with fail
    go_ret2
    exact ⟨by rw [HF.out]; rfl, hB1⟩
  have HE2 : Hid (scmE s = bndsE s.kinds [] s.bonds) := by unfold Hid; rw [HE1.out, if_neg h12]
  have h12' : (s.bonds.length : Int) ≤ 12 := by omega
  clear HE1 h12
  go_wp2_with fail
  go_loopw [6] (fun i wr => ∃ k : Nat, k ≤ s.bonds.length ∧ i = .int .i64 k ∧ Below w1.heap.size w1 wr ∧ Hid (scmE s = bndsE s.kinds (s.bonds.take k) (s.bonds.drop k))) (fun i _ => s.bonds.length - (intOf i).toNat)
  case atStart => exact ⟨0, Nat.zero_le _, rfl, Below.refl _ _, HE2.out⟩
  case round =>
    clear HE2
    obtain ⟨k, hk, rfl, hb, HR⟩ := hrel
    have x0 := cell_below hb x0
    have x1 := cell_below hb x1
    have hbW := hB1.trans (hb.mono hw1)
    by_cases hlt : k < s.bonds.length
    · obtain ⟨d, hd⟩ : ∃ d, s.bonds[k]? = some d := ⟨_, List.getElem?_eq_getElem hlt⟩
      obtain ⟨gb, o, rfl, hok, q0, q1, q2, q3, q4⟩ := bnd_at (HV1.out.below hb).2 hd
      have hlt' : (k : Int) < (s.bonds.length : Int) := by omega
      have hic : (k : Int) ≤ (cb : Int) := by omega
      have hk0 : (0 : Int) ≤ (k : Int) := by omega
      obtain ⟨z0, z1, z2, z3, z4⟩ := cell_box5 wr (.string d.name) (.string d.src) (.string d.dst) (.int .i64 d.mn) (.int .i64 d.mx) 43
      have ha1 : Below wr.heap.size wr (wr.alloc (.cells #[.string d.name, .string d.src, .string d.dst, .int .i64 d.mn, .int .i64 d.mx] 43)) := (Below.refl _ _).alloc (Nat.le_refl _) _
      have hb2 := hb.trans (ha1.mono hb.size)
      have HST := Lib.hid (bndsE_step hd HR.out)
      have HB0 : Hid (bndE s.kinds (s.bonds.take k) d = if nameE d.name = 0 then (if 0 ≤ bFind (s.bonds.take k) d.name then 7 else if kFind s.kinds d.src < 0 ∨ kFind s.kinds d.dst < 0 then 5 else if rngB d then 1 else 0) else nameE d.name) := rfl
      have hrn := fun W => rname_any d.name W hok.1
      have hvt := (HV1.out.below hb2).2.take (k := k) (by omega)
      have x0 := cell_below ha1 x0
      have x1 := cell_below ha1 x1
      clear hd hok HR
      go_upto_region 10 with fail
      generalize wr.alloc (.cells #[.string d.name, .string d.src, .string d.dst, .int .i64 d.mn, .int .i64 d.mx] 43) = w2 at *
      have hBX := hB1.trans (hb2.mono hw1)
      clear q0 q1 q2 q3 q4
      by_cases hn : nameE d.name = 0
      case neg =>
        have HBE : Hid (bndE s.kinds (s.bonds.take k) d = 2) := by unfold Hid; rw [HB0.out, if_neg hn, nameE_two hn]
        have hrn2 := hrn w2
        rw [nameE_two hn] at hrn2
        clear hrn hn HB0 hvt
        go_wp2_with fail
        refine hrn2.mono ?_
        clear hrn2
        rintro e w' ⟨rfl, rfl⟩
        -- 2: which fault
        have HE : Hid (scmE s = (d.name, 2)) := by unfold Hid; rw [HST.out, if_neg (by rw [HBE.out]; decide), HBE.out]
        clear HST HBE
        go_wp2_with fail
        go_ret2
        exact ⟨by rw [HE.out]; rfl, hBX⟩
      have hrn2 := hrn w2
      rw [hn] at hrn2
      have HB1 : Hid (bndE s.kinds (s.bonds.take k) d = if 0 ≤ bFind (s.bonds.take k) d.name then 7 else if kFind s.kinds d.src < 0 ∨ kFind s.kinds d.dst < 0 then 5 else if rngB d then 1 else 0) := by unfold Hid; rw [HB0.out, if_pos hn]
      clear hrn hn HB0
      go_wp2_with fail
      refine hrn2.mono ?_
      clear hrn2
      rintro e w' ⟨rfl, rfl⟩
      go_wp2_with fail
      refine wp_mid_k 6 _ rfl rfl (by kernel_rfl) (by kernel_rfl) ?_
      simp only [List.take_succ_cons, List.take_zero, List.drop_succ_cons, List.drop_zero]
      repeat (go_big_quiet_step (fail))
      refine wpQuiet_nil ?_
      intro _ hw'
      obtain ⟨nq, hw''⟩ := hw'
      subst hw''
      intro K hK
      have hbd := below_drewN (Below.refl w2.heap.size w2) nq
      have hkf := rbond_any (s.bonds.take k) d.name _ (w2.drewN nq) (hvt.below hbd)
      clear hvt
      go_wp2_with fail
      refine hkf.mono ?_
      clear hkf
      rintro e w' ⟨rfl, rfl⟩
      generalize hzz : bFind (s.bonds.take k) d.name = z at *
      clear hzz
      refine hK _ _ ?_
      repeat (go_big_quiet_step (fail))
      refine wpQuiet_nil ?_
      intro _ hw'
      obtain ⟨nq2, hw''⟩ := hw'
      subst hw''
      clear hK
      have hbd2 := below_drewN hbd nq2
      generalize (w2.drewN nq).drewN nq2 = w3 at *
      have x0 := cell_below hbd2 x0
      have x1 := cell_below hbd2 x1
      have z0 := cell_below hbd2 z0
      have z1 := cell_below hbd2 z1
      have z2 := cell_below hbd2 z2
      have z3 := cell_below hbd2 z3
      have z4 := cell_below hbd2 z4
      have hb4 := hb2.trans (hbd2.mono hb2.size)
      have hBX := hB1.trans (hb4.mono hw1)
      clear hbd hbd2 hb2
      by_cases hz : 0 ≤ z
      · have HBE : Hid (bndE s.kinds (s.bonds.take k) d = 7) := by unfold Hid; rw [HB1.out, if_pos hz]
        clear HB1
        -- 7: which fault
        have HE : Hid (scmE s = (d.name, 7)) := by unfold Hid; rw [HST.out, if_neg (by rw [HBE.out]; decide), HBE.out]
        clear HST HBE
        go_wp2_with fail
        go_ret2
        exact ⟨by rw [HE.out]; rfl, hBX⟩
      have hz' : z < 0 := by omega
      have HB2 : Hid (bndE s.kinds (s.bonds.take k) d = if kFind s.kinds d.src < 0 ∨ kFind s.kinds d.dst < 0 then 5 else if rngB d then 1 else 0) := by unfold Hid; rw [HB1.out, if_neg hz]
      have hk1 := rkind_any s.kinds d.src _ w3 (HV1.out.below hb4).1
      have hk2 := rkind_any s.kinds d.dst _ w3 (HV1.out.below hb4).1
      clear HB1 hz
      generalize kFind s.kinds d.src = k1 at *
      generalize kFind s.kinds d.dst = k2 at *
      go_wp2_with fail
      refine hk1.mono ?_
      clear hk1
      rintro e w' ⟨rfl, rfl⟩
      by_cases hs : k1 < 0
      · have HBE : Hid (bndE s.kinds (s.bonds.take k) d = 5) := by unfold Hid; rw [HB2.out, if_pos (.inl hs)]
        clear HB2 hk2
        -- 5: which fault
        have HE : Hid (scmE s = (d.name, 5)) := by unfold Hid; rw [HST.out, if_neg (by rw [HBE.out]; decide), HBE.out]
        clear HST HBE
        go_wp2_with fail
        go_ret2
        exact ⟨by rw [HE.out]; rfl, hBX⟩
      have hs' : 0 ≤ k1 := by omega
      have hsd : decide (k1 < 0) = false := decide_eq_false hs
      go_wp2_with fail
      refine hk2.mono ?_
      clear hk2
      rintro e w' ⟨rfl, rfl⟩
      by_cases ht : k2 < 0
      · have HBE : Hid (bndE s.kinds (s.bonds.take k) d = 5) := by unfold Hid; rw [HB2.out, if_pos (.inr ht)]
        clear HB2 hs
        -- 5: which fault
        have HE : Hid (scmE s = (d.name, 5)) := by unfold Hid; rw [HST.out, if_neg (by rw [HBE.out]; decide), HBE.out]
        clear HST HBE
        go_wp2_with fail
        go_ret2
        exact ⟨by rw [HE.out]; rfl, hBX⟩
      have ht' : 0 ≤ k2 := by omega
      have HB3 : Hid (bndE s.kinds (s.bonds.take k) d = if rngB d then 1 else 0) := by unfold Hid; rw [HB2.out, if_neg (by omega)]
      have HRNG : True := trivial
      clear HB2 hs ht hsd
      by_cases r1 : d.mn < 0
      · have HBE : Hid (bndE s.kinds (s.bonds.take k) d = 1) := by unfold Hid; rw [HB3.out, if_pos ((rng_ref d).2 (.inl r1))]
        clear HB3 HRNG
        -- 1: which fault
        have HE : Hid (scmE s = (d.name, 1)) := by unfold Hid; rw [HST.out, if_neg (by rw [HBE.out]; decide), HBE.out]
        clear HST HBE
        go_wp2_with fail
        go_ret2
        exact ⟨by rw [HE.out]; rfl, hBX⟩
      have r1' : 0 ≤ d.mn := by omega
      by_cases r2 : 20 < d.mn
      · clear r1
        have HBE : Hid (bndE s.kinds (s.bonds.take k) d = 1) := by unfold Hid; rw [HB3.out, if_pos ((rng_ref d).2 (.inr (.inl r2)))]
        clear HB3 HRNG
        -- 1: which fault
        have HE : Hid (scmE s = (d.name, 1)) := by unfold Hid; rw [HST.out, if_neg (by rw [HBE.out]; decide), HBE.out]
        clear HST HBE
        go_wp2_with fail
        go_ret2
        exact ⟨by rw [HE.out]; rfl, hBX⟩
      have r2' : d.mn ≤ 20 := by omega
      by_cases r3 : d.mx < -1
      · clear r1 r2
        have HBE : Hid (bndE s.kinds (s.bonds.take k) d = 1) := by unfold Hid; rw [HB3.out, if_pos ((rng_ref d).2 (.inr (.inr (.inl r3))))]
        clear HB3 HRNG
        -- 1: which fault
        have HE : Hid (scmE s = (d.name, 1)) := by unfold Hid; rw [HST.out, if_neg (by rw [HBE.out]; decide), HBE.out]
        clear HST HBE
        go_wp2_with fail
        go_ret2
        exact ⟨by rw [HE.out]; rfl, hBX⟩
      have r3' : -1 ≤ d.mx := by omega
      by_cases r4 : 20 < d.mx
      · clear r1 r2 r3
        have HBE : Hid (bndE s.kinds (s.bonds.take k) d = 1) := by unfold Hid; rw [HB3.out, if_pos ((rng_ref d).2 (.inr (.inr (.inr (.inl r4)))))]
        clear HB3 HRNG
        -- 1: which fault
        have HE : Hid (scmE s = (d.name, 1)) := by unfold Hid; rw [HST.out, if_neg (by rw [HBE.out]; decide), HBE.out]
        clear HST HBE
        go_wp2_with fail
        go_ret2
        exact ⟨by rw [HE.out]; rfl, hBX⟩
      have r4' : d.mx ≤ 20 := by omega
      by_cases r5 : 0 ≤ d.mx
      · by_cases r6 : d.mx < d.mn
        · clear r1 r2 r3 r4
          have HBE : Hid (bndE s.kinds (s.bonds.take k) d = 1) := by unfold Hid; rw [HB3.out, if_pos ((rng_ref d).2 (.inr (.inr (.inr (.inr ⟨r5, r6⟩)))))]
          clear HB3 HRNG
          -- 1: which fault
          have HE : Hid (scmE s = (d.name, 1)) := by unfold Hid; rw [HST.out, if_neg (by rw [HBE.out]; decide), HBE.out]
          clear HST HBE
          go_wp2_with fail
          go_ret2
          exact ⟨by rw [HE.out]; rfl, hBX⟩
        · have r6' : d.mn ≤ d.mx := by omega
          clear r1 r2 r3 r4 r6
          have HN : Hid (scmE s = bndsE s.kinds (s.bonds.take (k + 1)) (s.bonds.drop (k + 1))) := by
            have h0 : bndE s.kinds (s.bonds.take k) d = 0 := by rw [HB3.out, if_neg (fun h => absurd ((rng_ref d).1 h) (by omega))]
            unfold Hid; rw [HST.out, if_pos h0]
          clear HST HB3 HRNG
          go_wp2_with fail
          go_roundw
          case rel => exact ⟨k + 1, by omega, by go_num, hb4, HN⟩
          case measure => simp [intOf]; omega
      · have r5' : d.mx < 0 := by omega
        clear r1 r2 r3 r4 r5
        have HN : Hid (scmE s = bndsE s.kinds (s.bonds.take (k + 1)) (s.bonds.drop (k + 1))) := by
          have h0 : bndE s.kinds (s.bonds.take k) d = 0 := by rw [HB3.out, if_neg (fun h => absurd ((rng_ref d).1 h) (by omega))]
          unfold Hid; rw [HST.out, if_pos h0]
        clear HST HB3 HRNG
        go_wp2_with fail
        go_roundw
        case rel => exact ⟨k + 1, by omega, by go_num, hb4, HN⟩
        case measure => simp [intOf]; omega
    · obtain rfl : k = s.bonds.length := by omega
      have HE : Hid (scmE s = (.empty, 0)) := by unfold Hid; rw [HR.out, List.drop_length]; rfl
      clear HR
      go_wp2_with fail
      go_ret2
      exact ⟨by rw [HE.out]; rfl, hbW⟩
theorem rright_any (s : Scm) (vk vb : Value) (w : World) (hv : ScmR w vk vb s) : Calls Tryz.prog 16 #[.agg #[vk, vb]] w fun e w' => e = .returned (.int .i64 (scmE s).2) ∧ Below w.heap.size w w' := by
  have hb0 : Below w.heap.size w (w.alloc (.cells #[vk, vb] 25)) := (Below.refl _ _).alloc (Nat.le_refl _) _
  have h1 := rschema_any s vk vb _ (hv.below hb0)
  obtain ⟨z, hz⟩ : ∃ z, z = scmE s := ⟨_, rfl⟩
  rw [← hz] at h1
  have HZ := Lib.hid hz
  obtain ⟨A, c, rfl, _, _⟩ := hv.1.form
  obtain ⟨A', c', rfl, _, _⟩ := hv.2.form
  clear hv hz
  go_enter Tryz.func16, Tryz.ntmps16
  go_wp2_with fail
  refine h1.mono ?_
  clear h1
  rintro e w2 ⟨rfl, hb2⟩
  go_wp2_with fail
  go_ret
  exact ⟨by rw [← HZ.out]; rfl, hb0.trans (hb2.mono (by simp))⟩
end Go.Proofs.YtfjnkidblalckaaGreatDoor

/- Contracts of the references: kinref1.Value, Prop, Record: what is wrong with a record. No condition. -/
namespace Go.Proofs.YtfjnkidblalckaaGreatDoor
open Go Go.RowKit

theorem str_any0 {s : ByteArray} (h : ∀ j x, j < s.size → s.data.toList[j]? = some x → strC x = false) : s.data.toList.any strC = false := by
  rw [List.any_eq_false]
  intro x hx
  obtain ⟨j, hj⟩ := List.mem_iff_getElem?.1 hx
  have hl := (List.getElem?_eq_some_iff.1 hj).1
  have := h j x (by simpa using hl) hj
  simp [this]
theorem str_any1 {s : ByteArray} {k : Nat} {x : UInt8} (h : s.data.toList[k]? = some x) (hx : strC x = true) : s.data.toList.any strC = true :=
  List.any_eq_true.2 ⟨x, List.mem_of_getElem? h, hx⟩
set_option maxRecDepth 100000 in
set_option maxHeartbeats 4000000 in
theorem rvalue_any (v : Val) (w : World) (hs : Sm v.s) :
    Calls Tryz.prog 63 #[.agg #[.int .i64 v.ty, .int .i64 v.n, .string v.s]] w fun e w' => e = .returned (.int .i64 (valE v)) ∧ Below w.heap.size w w' := by
  obtain ⟨ty, n, s⟩ := v
  have hs : s.size ≤ 1048576 := hs
  have hb0 : Below w.heap.size w (w.alloc (.cells #[.int .i64 ty, .int .i64 n, .string s] 112)) := (Below.refl _ _).alloc (Nat.le_refl _) _
  have HF : Hid (valE ⟨ty, n, s⟩ = if ty = 1 ∨ ty = 2 ∨ ty = 3 then (if n < valLo ty ∨ valHi ty < n then 1 else if ty = 3 ∧ 20 < s.size then 4 else if s.data.toList.any strC = true ∨ (ty ≠ 3 ∧ s.toList.isEmpty = false) then 2 else 0) else 8) := rfl
  by_cases h0 : ty < 1
  · have HE : Hid (valE ⟨ty, n, s⟩ = 8) := by unfold Hid; rw [HF.out, if_neg (by omega)]
    clear HF
    go_enter Tryz.func63, Tryz.ntmps63
    go_wp2_with fail
    go_ret
    exact ⟨by rw [HE.out]; rfl, hb0⟩
  by_cases h4 : 3 < ty
  · have h0' : 1 ≤ ty := by omega
    have HE : Hid (valE ⟨ty, n, s⟩ = 8) := by unfold Hid; rw [HF.out, if_neg (by omega)]
    clear h0
    clear HF
    go_enter Tryz.func63, Tryz.ntmps63
    go_wp2_with fail
    go_ret
    exact ⟨by rw [HE.out]; rfl, hb0⟩
  have h3 : ty = 1 ∨ ty = 2 ∨ ty = 3 := by omega
  rcases h3 with rfl | rfl | rfl
  · by_cases h1 : n < -1000000
    · have HE : Hid (valE ⟨1, n, s⟩ = 1) := by unfold Hid; rw [HF.out, if_pos (.inl rfl), if_pos (.inl h1)]
      clear h0 h4
      clear HF
      go_enter Tryz.func63, Tryz.ntmps63
      go_wp2_with fail
      go_ret
      exact ⟨by rw [HE.out]; rfl, hb0⟩
    have h1' : -1000000 ≤ n := by omega
    by_cases h2 : 1000000 < n
    · have HE : Hid (valE ⟨1, n, s⟩ = 1) := by unfold Hid; rw [HF.out, if_pos (.inl rfl), if_pos (.inr h2)]
      clear h0 h4 h1
      clear HF
      go_enter Tryz.func63, Tryz.ntmps63
      go_wp2_with fail
      go_ret
      exact ⟨by rw [HE.out]; rfl, hb0⟩
    have h2' : n ≤ 1000000 := by omega
    have HG : Hid (valE ⟨1, n, s⟩ = if s.data.toList.any strC = true ∨ s.toList.isEmpty = false then 2 else 0) := by
      unfold Hid
      rw [HF.out, if_pos (.inl rfl), if_neg (by rintro (h | h); exact h1 h; exact h2 h), if_neg (by omega)]
      simp
    cases he : s.toList.isEmpty with
    | false =>
      have hq : ¬ s.toList = [] := by intro e; rw [e] at he; cases he
      have HE : Hid (valE ⟨1, n, s⟩ = 2) := by unfold Hid; rw [HG.out, if_pos (.inr he)]
      clear h0 h4 h1 h2 HG
      clear HF
      go_enter Tryz.func63, Tryz.ntmps63
      go_wp2_with fail
      go_ret
      exact ⟨by rw [HE.out]; rfl, hb0⟩
    | true =>
      have hq : s.toList = [] := by simpa using he
      have HS1 : Hid (∀ (k : Nat) x, s.data.toList[k]? = some x → strC x = true → valE ⟨1, n, s⟩ = 2) := fun k x hk hx => by rw [HG.out, if_pos (.inl (str_any1 hk hx))]
      have HS0 : Hid ((∀ j x, j < s.size → s.data.toList[j]? = some x → strC x = false) → valE ⟨1, n, s⟩ = 0) := fun h => by rw [HG.out, str_any0 h, he]; rfl
      clear h0 h4 h1 h2 HG HF
      go_enter Tryz.func63, Tryz.ntmps63
      go_wp2_with fail
      go_loop [3] (fun i => ∃ k : Nat, k ≤ s.size ∧ i = .int .i64 k ∧ Hid (∀ j x, j < k → s.data.toList[j]? = some x → strC x = false)) (fun i => s.size - (intOf i).toNat)
      case atStart => exact ⟨0, Nat.zero_le _, rfl, fun j x hj => absurd hj (Nat.not_lt_zero _)⟩
      case round =>
        obtain ⟨k, hk, rfl, HA⟩ := hrel
        by_cases hlt : k < s.size
        · have hlt' : (k : Int) < (s.size : Int) := by omega
          have HB := Lib.hid (bytes_at s k hlt)
          by_cases hlo : (s[k].toNat : Int) < 32
          · have HE : Hid (valE ⟨1, n, s⟩ = 2) := HS1.out _ _ HB.out (by unfold strC; rw [decide_eq_true hlo]; rfl)
            go_wp2_with fail
            go_ret
            exact ⟨by rw [HE.out]; rfl, hb0⟩
          · have hlo' : (32 : Int) ≤ (s[k].toNat : Int) := by omega
            by_cases hhi : (126 : Int) < (s[k].toNat : Int)
            · have HE : Hid (valE ⟨1, n, s⟩ = 2) := HS1.out _ _ HB.out (by unfold strC; rw [decide_eq_true hhi]; simp)
              clear hlo
              go_wp2_with fail
              go_ret
              exact ⟨by rw [HE.out]; rfl, hb0⟩
            · have hhi' : (s[k].toNat : Int) ≤ 126 := by omega
              have HS : Hid (∀ j x, j < k + 1 → s.data.toList[j]? = some x → strC x = false) := miss_step HA.out HB.out (by unfold strC; rw [decide_eq_false hlo, decide_eq_false hhi]; rfl)
              clear hlo hhi
              go_wp2_with fail
              go_round
              case rel => exact ⟨k + 1, by omega, by go_num, HS⟩
              case measure => simp [intOf]; omega
        · obtain rfl : k = s.size := by omega
          have HE : Hid (valE ⟨1, n, s⟩ = 0) := HS0.out HA.out
          go_wp2_with fail
          go_ret
          exact ⟨by rw [HE.out]; rfl, hb0⟩
  · by_cases h1 : n < 0
    · have HE : Hid (valE ⟨2, n, s⟩ = 1) := by unfold Hid; rw [HF.out, if_pos (.inr (.inl rfl)), if_pos (.inl h1)]
      clear h0 h4
      clear HF
      go_enter Tryz.func63, Tryz.ntmps63
      go_wp2_with fail
      go_ret
      exact ⟨by rw [HE.out]; rfl, hb0⟩
    have h1' : 0 ≤ n := by omega
    by_cases h2 : 1 < n
    · have HE : Hid (valE ⟨2, n, s⟩ = 1) := by unfold Hid; rw [HF.out, if_pos (.inr (.inl rfl)), if_pos (.inr h2)]
      clear h0 h4 h1
      clear HF
      go_enter Tryz.func63, Tryz.ntmps63
      go_wp2_with fail
      go_ret
      exact ⟨by rw [HE.out]; rfl, hb0⟩
    have h2' : n ≤ 1 := by omega
    have HG : Hid (valE ⟨2, n, s⟩ = if s.data.toList.any strC = true ∨ s.toList.isEmpty = false then 2 else 0) := by
      unfold Hid
      rw [HF.out, if_pos (.inr (.inl rfl)), if_neg (by rintro (h | h); exact h1 h; exact h2 h), if_neg (by omega)]
      simp
    cases he : s.toList.isEmpty with
    | false =>
      have hq : ¬ s.toList = [] := by intro e; rw [e] at he; cases he
      have HE : Hid (valE ⟨2, n, s⟩ = 2) := by unfold Hid; rw [HG.out, if_pos (.inr he)]
      clear h0 h4 h1 h2 HG
      clear HF
      go_enter Tryz.func63, Tryz.ntmps63
      go_wp2_with fail
      go_ret
      exact ⟨by rw [HE.out]; rfl, hb0⟩
    | true =>
      have hq : s.toList = [] := by simpa using he
      have HS1 : Hid (∀ (k : Nat) x, s.data.toList[k]? = some x → strC x = true → valE ⟨2, n, s⟩ = 2) := fun k x hk hx => by rw [HG.out, if_pos (.inl (str_any1 hk hx))]
      have HS0 : Hid ((∀ j x, j < s.size → s.data.toList[j]? = some x → strC x = false) → valE ⟨2, n, s⟩ = 0) := fun h => by rw [HG.out, str_any0 h, he]; rfl
      clear h0 h4 h1 h2 HG HF
      go_enter Tryz.func63, Tryz.ntmps63
      go_wp2_with fail
      go_loop [3] (fun i => ∃ k : Nat, k ≤ s.size ∧ i = .int .i64 k ∧ Hid (∀ j x, j < k → s.data.toList[j]? = some x → strC x = false)) (fun i => s.size - (intOf i).toNat)
      case atStart => exact ⟨0, Nat.zero_le _, rfl, fun j x hj => absurd hj (Nat.not_lt_zero _)⟩
      case round =>
        obtain ⟨k, hk, rfl, HA⟩ := hrel
        by_cases hlt : k < s.size
        · have hlt' : (k : Int) < (s.size : Int) := by omega
          have HB := Lib.hid (bytes_at s k hlt)
          by_cases hlo : (s[k].toNat : Int) < 32
          · have HE : Hid (valE ⟨2, n, s⟩ = 2) := HS1.out _ _ HB.out (by unfold strC; rw [decide_eq_true hlo]; rfl)
            go_wp2_with fail
            go_ret
            exact ⟨by rw [HE.out]; rfl, hb0⟩
          · have hlo' : (32 : Int) ≤ (s[k].toNat : Int) := by omega
            by_cases hhi : (126 : Int) < (s[k].toNat : Int)
            · have HE : Hid (valE ⟨2, n, s⟩ = 2) := HS1.out _ _ HB.out (by unfold strC; rw [decide_eq_true hhi]; simp)
              clear hlo
              go_wp2_with fail
              go_ret
              exact ⟨by rw [HE.out]; rfl, hb0⟩
            · have hhi' : (s[k].toNat : Int) ≤ 126 := by omega
              have HS : Hid (∀ j x, j < k + 1 → s.data.toList[j]? = some x → strC x = false) := miss_step HA.out HB.out (by unfold strC; rw [decide_eq_false hlo, decide_eq_false hhi]; rfl)
              clear hlo hhi
              go_wp2_with fail
              go_round
              case rel => exact ⟨k + 1, by omega, by go_num, HS⟩
              case measure => simp [intOf]; omega
        · obtain rfl : k = s.size := by omega
          have HE : Hid (valE ⟨2, n, s⟩ = 0) := HS0.out HA.out
          go_wp2_with fail
          go_ret
          exact ⟨by rw [HE.out]; rfl, hb0⟩
  · by_cases h1 : n = 0
    case neg =>
      have hnb : (n != 0) = true := by simpa using h1
      have HE : Hid (valE ⟨3, n, s⟩ = 1) := by
        unfold Hid
        rw [HF.out, if_pos (.inr (.inr rfl)), if_pos]
        have e1 : valLo 3 = 0 := rfl
        have e2 : valHi 3 = 0 := rfl
        rw [e1, e2]; omega
      clear h0 h4 h1
      clear HF
      go_enter Tryz.func63, Tryz.ntmps63
      go_wp2_with fail
      go_ret
      exact ⟨by rw [HE.out]; rfl, hb0⟩
    subst h1
    by_cases h2 : 20 < s.size
    · have h2' : (20 : Int) < (s.size : Int) := by omega
      have HE : Hid (valE ⟨3, 0, s⟩ = 4) := by unfold Hid; rw [HF.out, if_pos (.inr (.inr rfl)), if_neg (by simp [valLo, valHi]), if_pos ⟨rfl, h2⟩]
      clear h0 h4
      clear HF
      go_enter Tryz.func63, Tryz.ntmps63
      go_wp2_with fail
      go_ret
      exact ⟨by rw [HE.out]; rfl, hb0⟩
    have h2' : (s.size : Int) ≤ 20 := by omega
    have HG : Hid (valE ⟨3, 0, s⟩ = if s.data.toList.any strC = true then 2 else 0) := by
      unfold Hid
      rw [HF.out, if_pos (.inr (.inr rfl)), if_neg (by simp [valLo, valHi]), if_neg (by omega)]
      simp
    have HS1 : Hid (∀ (k : Nat) x, s.data.toList[k]? = some x → strC x = true → valE ⟨3, 0, s⟩ = 2) := fun k x hk hx => by rw [HG.out, if_pos (str_any1 hk hx)]
    have HS0 : Hid ((∀ j x, j < s.size → s.data.toList[j]? = some x → strC x = false) → valE ⟨3, 0, s⟩ = 0) := fun h => by rw [HG.out, str_any0 h]; rfl
    clear h0 h4 h2 HG HF
    go_enter Tryz.func63, Tryz.ntmps63
    go_wp2_with fail
    go_loop [3] (fun i => ∃ k : Nat, k ≤ s.size ∧ i = .int .i64 k ∧ Hid (∀ j x, j < k → s.data.toList[j]? = some x → strC x = false)) (fun i => s.size - (intOf i).toNat)
    case atStart => exact ⟨0, Nat.zero_le _, rfl, fun j x hj => absurd hj (Nat.not_lt_zero _)⟩
    case round =>
      obtain ⟨k, hk, rfl, HA⟩ := hrel
      by_cases hlt : k < s.size
      · have hlt' : (k : Int) < (s.size : Int) := by omega
        have HB := Lib.hid (bytes_at s k hlt)
        by_cases hlo : (s[k].toNat : Int) < 32
        · have HE : Hid (valE ⟨3, 0, s⟩ = 2) := HS1.out _ _ HB.out (by unfold strC; rw [decide_eq_true hlo]; rfl)
          go_wp2_with fail
          go_ret
          exact ⟨by rw [HE.out]; rfl, hb0⟩
        · have hlo' : (32 : Int) ≤ (s[k].toNat : Int) := by omega
          by_cases hhi : (126 : Int) < (s[k].toNat : Int)
          · have HE : Hid (valE ⟨3, 0, s⟩ = 2) := HS1.out _ _ HB.out (by unfold strC; rw [decide_eq_true hhi]; simp)
            clear hlo
            go_wp2_with fail
            go_ret
            exact ⟨by rw [HE.out]; rfl, hb0⟩
          · have hhi' : (s[k].toNat : Int) ≤ 126 := by omega
            have HS : Hid (∀ j x, j < k + 1 → s.data.toList[j]? = some x → strC x = false) := miss_step HA.out HB.out (by unfold strC; rw [decide_eq_false hlo, decide_eq_false hhi]; rfl)
            clear hlo hhi
            go_wp2_with fail
            go_round
            case rel => exact ⟨k + 1, by omega, by go_num, HS⟩
            case measure => simp [intOf]; omega
      · obtain rfl : k = s.size := by omega
        have HE : Hid (valE ⟨3, 0, s⟩ = 0) := HS0.out HA.out
        go_wp2_with fail
        go_ret
        exact ⟨by rw [HE.out]; rfl, hb0⟩
end Go.Proofs.YtfjnkidblalckaaGreatDoor

/- Contracts of the references: kinref1.Prop, Record. No condition. -/
namespace Go.Proofs.YtfjnkidblalckaaGreatDoor
open Go Go.RowKit

set_option maxHeartbeats 1000000 in
theorem rprop_any (p : Prp) (w : World) (hp : p.ok) :
    Calls Tryz.prog 51 #[.agg #[.string p.name, .int .i64 p.v.ty, .int .i64 p.v.n, .string p.v.s]] w fun e w' => e = .returned (.int .i64 (prpE p)) ∧ Below w.heap.size w w' := by
  obtain ⟨nm, v⟩ := p
  obtain ⟨hn, hv⟩ := hp
  have hn' : Sm nm := hn
  have hv' : Sm v.s := hv.2.2
  have hb0 : Below w.heap.size w (w.alloc (.cells #[.string nm, .int .i64 v.ty, .int .i64 v.n, .string v.s] 114)) := (Below.refl _ _).alloc (Nat.le_refl _) _
  by_cases h : nameE nm = 0
  · have HE : Hid (prpE ⟨nm, v⟩ = valE v) := by unfold Hid prpE; rw [if_pos h]
    have hr := rname_any nm (w.alloc (.cells #[.string nm, .int .i64 v.ty, .int .i64 v.n, .string v.s] 114)) hn'
    rw [h] at hr
    clear h
    go_enter Tryz.func51, Tryz.ntmps51
    go_wp2_with fail
    refine hr.mono ?_
    clear hr
    rintro e w1 ⟨rfl, rfl⟩
    go_wp2_with fail
    refine (rvalue_any v _ hv').mono ?_
    rintro e w2 ⟨rfl, hb2⟩
    have hb3 := hb0.trans (hb2.mono hb0.size)
    generalize valE v = z at *
    go_wp2_with fail
    go_ret
    exact ⟨by rw [HE.out]; rfl, hb3⟩
  · have HE : Hid (prpE ⟨nm, v⟩ = 2) := by unfold Hid prpE; rw [if_neg h]; exact nameE_two h
    have hr := rname_any nm (w.alloc (.cells #[.string nm, .int .i64 v.ty, .int .i64 v.n, .string v.s] 114)) hn'
    rw [nameE_two h] at hr
    clear h
    go_enter Tryz.func51, Tryz.ntmps51
    go_wp2_with fail
    refine hr.mono ?_
    clear hr
    rintro e w1 ⟨rfl, rfl⟩
    go_wp2_with fail
    go_ret
    exact ⟨by rw [HE.out]; rfl, hb0⟩
set_option maxRecDepth 100000 in
set_option maxHeartbeats 4000000 in
theorem rrecord_any (r : List Prp) (v : Value) (w : World) (hv : Sl prpL w v r) :
    Calls Tryz.prog 33 #[v] w fun e w' => e = .returned (.int .i64 (recE r)) ∧ Below w.heap.size w w' := by
  obtain ⟨A, c, rfl, hlc, hcm⟩ := hv.form
  unfold maxLen at hcm
  have HF : Hid (recE r = if 8 < r.length then 4 else if firstE prpE r = 0 then (if chain (fun a b => ltS a.name b.name) r then 0 else 7) else firstE prpE r) := rfl
  by_cases h8 : 8 < r.length
  · have HE : Hid (recE r = 4) := by unfold Hid; rw [HF.out, if_pos h8]
    have h8' : (8 : Int) < (r.length : Int) := by omega
    clear hv HF
    go_enter Tryz.func33, Tryz.ntmps33
    go_wp2_with fail
    go_ret
    exact ⟨by rw [HE.out]; rfl, Below.refl _ _⟩
  have h8' : (r.length : Int) ≤ 8 := by omega
  go_enter Tryz.func33, Tryz.ntmps33
  go_wp2_with fail
  go_loopw [3] (fun i wr => ∃ k : Nat, k ≤ r.length ∧ i = .int .i64 k ∧ Below w.heap.size w wr ∧ Hid (∀ j x, j < k → r[j]? = some x → prpE x = 0)) (fun i _ => r.length - (intOf i).toNat)
  case atStart => exact ⟨0, Nat.zero_le _, rfl, Below.refl _ _, fun j x hj => absurd hj (Nat.not_lt_zero _)⟩
  case round =>
    obtain ⟨k, hk, rfl, hb, HA⟩ := hrel
    by_cases hlt : k < r.length
    · obtain ⟨d, hd⟩ : ∃ d, r[k]? = some d := ⟨_, List.getElem?_eq_getElem hlt⟩
      obtain ⟨b, o, rfl, hok, x0, x1, x2, x3⟩ := prp_at (hv.below hb) hd
      have hlt' : (k : Int) < (r.length : Int) := by omega
      have HD := Lib.hid hd
      have hp := rprop_any d wr hok
      have HFE : Hid (prpE d ≠ 0 → recE r = prpE d) := fun hne => by
        have := firstE_hit HA.out hd hne
        rw [HF.out, if_neg h8, if_neg (by rw [this]; exact hne), this]
      have HZ : Hid (prpE d = 0 → ∀ j x, j < k + 1 → r[j]? = some x → prpE x = 0) := fun h => zero_step HA.out hd h
      clear hd hok HA hv HF
      generalize prpE d = z at *
      go_wp2_with fail
      refine hp.mono ?_
      clear hp
      rintro e w2 ⟨rfl, hb2⟩
      have hb3 := hb.trans (hb2.mono hb.size)
      by_cases hz : z = 0
      · have HN := Lib.hid (HZ.out hz)
        subst hz
        clear HFE HZ
        go_wp2_with fail
        go_roundw
        case rel => exact ⟨k + 1, by omega, by go_num, hb3, HN⟩
        case measure => simp [intOf]; omega
      · have HE : Hid (recE r = z) := HFE.out hz
        have hzb : (z != 0) = true := by simpa using hz
        clear HFE HZ hz
        go_wp2_with fail
        go_ret
        exact ⟨by rw [HE.out]; rfl, hb3⟩
    · obtain rfl : k = r.length := by omega
      have HG : Hid (recE r = if chain (fun a b => ltS a.name b.name) r then 0 else 7) := by unfold Hid; rw [HF.out, if_neg h8, if_pos (firstE_none HA.out)]
      clear HF HA hk hlt
      obtain ⟨wo, rfl⟩ : ∃ wo : World, wo = wr := ⟨_, rfl⟩
      go_wp2_with fail
      go_loopw [5] (fun i wr => ∃ k : Nat, (k = 0 ∨ k < r.length) ∧ i = .int .i64 ((k : Int) + 1) ∧ Below w.heap.size w wr ∧ Hid (∀ i a b, i < k → r[i]? = some a → r[i + 1]? = some b → ltS a.name b.name = true)) (fun i _ => r.length + 1 - (intOf i).toNat)
      case atStart => exact ⟨0, Or.inl rfl, rfl, hb, fun j _ _ hj => absurd hj (Nat.not_lt_zero _)⟩
      case round =>
        obtain ⟨k, hk, rfl, hb, HA⟩ := hrel
        by_cases hlt : k + 1 < r.length
        · obtain ⟨d, hd⟩ : ∃ d, r[k]? = some d := ⟨_, List.getElem?_eq_getElem (by omega)⟩
          obtain ⟨d', hd'⟩ : ∃ d, r[k + 1]? = some d := ⟨_, List.getElem?_eq_getElem hlt⟩
          obtain ⟨b, o, rfl, hall⟩ := prp_all (hv.below hb) (by omega)
          obtain ⟨_, x0, _⟩ := hall _ _ hd
          obtain ⟨_, y0, _⟩ := hall _ _ hd'
          have hlt' : (k : Int) + 1 < (r.length : Int) := by omega
          have hlt2 : (k : Int) < (r.length : Int) := by omega
          have hk0 : (0 : Int) ≤ (k : Int) := by omega
          have hw1 : IntKind.i64.wrap ((k : Int) + 1 - 1) = (k : Int) := by rw [IntWalk.i64_in _ (by omega)]; omega
          have HD : Hid (r[k]? = some d) := hd
          have HD' : Hid (r[k + 1]? = some d') := hd'
          have hltS : ltS d.name d'.name = decide (0 < cmpS d'.name d.name) := by
            rw [ltS_cmp, cmpS_anti d'.name d.name]; congr 1; apply propext; omega
          have hL : Op.bytesLess d'.name.toList d.name.toList = decide (cmpS d'.name d.name < 0) := ltS_cmp d'.name d.name
          have hE : (d'.name.toList == d.name.toList) = decide (d'.name = d.name) := bytes_beq d'.name d.name
          have HNO : Hid (ltS d.name d'.name = false → recE r = 7) := fun h => by rw [HG.out, chain_not HD.out HD'.out h]; rfl
          have HYES : Hid (ltS d.name d'.name = true → ∀ i a b, i < k + 1 → r[i]? = some a → r[i + 1]? = some b → ltS a.name b.name = true) := fun h => chain_step HA.out HD.out HD'.out h
          clear hall hd hd' hv HG HA HD HD'
          rcases Int.lt_trichotomy (cmpS d'.name d.name) 0 with hc | hc | hc
          · have hqf : ¬ d'.name = d.name := fun e => by rw [cmpS_zero.2 e] at hc; omega
            have HE : Hid (recE r = 7) := HNO.out (by rw [hltS, decide_eq_false (by omega)])
            rw [decide_eq_true hc] at hL
            rw [decide_eq_false hqf] at hE
            have hE2 : ¬ d'.name.toList = d.name.toList := by rw [bytes_eq]; exact hqf
            clear HNO HYES hltS hc hqf
            go_wp2_with fail
            go_quiet (fail)
            go_wp2_with fail
            go_ret
            exact ⟨by rw [HE.out]; rfl, below_drewN hb _⟩
          · have hqf : d'.name = d.name := cmpS_zero.1 hc
            have HE : Hid (recE r = 7) := HNO.out (by rw [hltS, decide_eq_false (by omega)])
            rw [decide_eq_false (show ¬ cmpS d'.name d.name < 0 by omega)] at hL
            rw [decide_eq_true hqf] at hE
            have hE2 : d'.name.toList = d.name.toList := by rw [bytes_eq]; exact hqf
            clear HNO HYES hltS hc hqf
            go_wp2_with fail
            go_quiet (fail)
            go_wp2_with fail
            go_ret
            exact ⟨by rw [HE.out]; rfl, below_drewN hb _⟩
          · have hqf : ¬ d'.name = d.name := fun e => by rw [cmpS_zero.2 e] at hc; omega
            have HN := Lib.hid (HYES.out (by rw [hltS, decide_eq_true hc]))
            rw [decide_eq_false (show ¬ cmpS d'.name d.name < 0 by omega)] at hL
            rw [decide_eq_false hqf] at hE
            have hE2 : ¬ d'.name.toList = d.name.toList := by rw [bytes_eq]; exact hqf
            clear HNO HYES hltS hc hqf
            go_wp2_with fail
            go_quiet (fail)
            go_wp2_with fail
            go_roundw
            case rel => exact ⟨k + 1, by omega, by go_num, below_drewN hb _, HN⟩
            case measure => simp [intOf]; omega
        · have hlt' : (r.length : Int) ≤ (k : Int) + 1 := by omega
          have HE : Hid (recE r = 0) := by unfold Hid; rw [HG.out, chain_all (by omega) HA.out]; rfl
          clear hv HG HA
          go_wp2_with fail
          go_ret
          exact ⟨by rw [HE.out]; rfl, hb⟩
end Go.Proofs.YtfjnkidblalckaaGreatDoor
