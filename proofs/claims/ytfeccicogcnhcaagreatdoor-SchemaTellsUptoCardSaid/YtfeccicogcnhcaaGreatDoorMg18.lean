/- Parts: RsT, RrA, WrA, SwA, RgI, RefG, RfB, BndA. -/
import Derived.Test.YtfeccicogcnhcaaGreatDoorMg16
import Derived.Test.YtfeccicogcnhcaaGreatDoorMg17
import Derived.Test.YtfeccicogcnhcaaGreatDoorMg07
import Derived.Test.YtfeccicogcnhcaaGreatDoorMg03
import Derived.Deep.DeepCutAuto
import Derived.Test.YtfeccicogcnhcaaGreatDoorMg15
import Derived.Test.YtfeccicogcnhcaaGreatDoorMg09
import Derived.Test.YtfeccicogcnhcaaGreatDoorMg08
import Derived.Test.YtfeccicogcnhcaaGreatDoorMg12
/- Contracts of the references: kinref1.Set, kinref1.Unset, at a record that is right. -/
namespace Go.Proofs.YtfeccicogcnhcaaGreatDoor
open Go Go.RowKit

theorem set_low {p q : Prp} {l : List Prp} (h : cmpS q.name p.name < 0) : rSetStep p (l, false) q = (l ++ [q], false) ∧ ¬ q.name = p.name := by
  have h2 : ¬ q.name = p.name := fun e => by have := cmpS_zero.2 e; omega
  have h1 : decide (0 ≤ cmpS q.name p.name) = false := decide_eq_false (by omega)
  exact ⟨by unfold rSetStep; simp [h1, h2], h2⟩


theorem noB_step {c : UInt8} {l : List UInt8} {k : Nat} {x : UInt8} (h : noB c (l.take k)) (hx : l[k]? = some x) (hne : x ≠ c) : noB c (l.take (k + 1)) := by
  rw [take_next hx]
  intro y hy
  rcases List.mem_append.1 hy with h1 | h1
  · exact h y h1
  · rw [List.mem_singleton.1 h1]; exact hne



theorem wordB_hit {l : List UInt8} {n : Nat} {c : UInt8} (h : l[n]? = some c) (hc : c = 44 ∨ c = 58) : wordB l = false := by
  rw [Bool.eq_false_iff]
  intro hw
  obtain ⟨_, h1, h2⟩ := word_iff.1 hw
  rcases hc with rfl | rfl
  · exact h1 _ (List.mem_of_getElem? h) rfl
  · exact h2 _ (List.mem_of_getElem? h) rfl
theorem wordB_end {l : List UInt8} (h1 : noB 44 l) (h2 : noB 58 l) : wordB l = !l.isEmpty := by
  cases l with
  | nil => rfl
  | cons x xs => exact word_iff.2 ⟨by simp, h1, h2⟩
theorem str_nil2 (s : ByteArray) : (s.toList = []) = (s.data.toList = []) := by
  have h := bs_lit (K := s.data.toList) (L := []) (M := []) (by decide +kernel)
  rw [bs_of] at h
  exact h
set_option maxRecDepth 100000 in
set_option maxHeartbeats 4000000 in
theorem rwd_any (s : ByteArray) (hs : Sm s) (w : World) :
    Calls Tryz.prog 30 #[.string s] w fun e w' => e = .returned (.bool (wordB s.data.toList)) ∧ Below w.heap.size w w' := by
  have hle := len_size s
  have HLE := Lib.hid hle
  unfold Sm at hs
  clear hle
  go_enter Tryz.func30, Tryz.ntmps30
  go_wp2_with fail
  go_loop [3] (fun j => ∃ n : Nat, n ≤ s.size ∧ j = .int .i64 n ∧ Hid (noB 44 (s.data.toList.take n) ∧ noB 58 (s.data.toList.take n))) (fun j => s.size - (intOf j).toNat)
  case atStart => exact ⟨0, Nat.zero_le _, rfl, fun y hy => by simp at hy, fun y hy => by simp at hy⟩
  case round =>
    obtain ⟨n, hn, rfl, HNB⟩ := hrel
    by_cases hnl : n < s.size
    · have hnl' : (n : Int) < (s.size : Int) := by omega
      have HYB := Lib.hid (bytes_at s n hnl)
      by_cases h44 : s[n] = 44
      · have c1 : ((s[n].toNat : Int) == 44) = true := by rw [h44]; rfl
        have c2 : (s[n].toNat : Int) = 44 := by rw [h44]; rfl
        have HW : Hid (wordB s.data.toList = false) := wordB_hit HYB.out (.inl h44)
        clear h44 HNB HYB
        go_wp2_with fail
        go_ret
        exact ⟨by rw [HW.out]; rfl, Below.refl _ _⟩
      · have c2 : ¬ (s[n].toNat : Int) = 44 := fun e => h44 (UInt8.toNat_inj.1 (show s[n].toNat = 44 by omega))
        have c1 : ((s[n].toNat : Int) == 44) = false := beq_eq_false_iff_ne.2 c2
        by_cases h58 : s[n] = 58
        · have d1 : ((s[n].toNat : Int) == 58) = true := by rw [h58]; rfl
          have d2 : (s[n].toNat : Int) = 58 := by rw [h58]; rfl
          have HW : Hid (wordB s.data.toList = false) := wordB_hit HYB.out (.inr h58)
          clear h44 h58 HNB HYB
          go_wp2_with fail
          go_ret
          exact ⟨by rw [HW.out]; rfl, Below.refl _ _⟩
        · have d2 : ¬ (s[n].toNat : Int) = 58 := fun e => h58 (UInt8.toNat_inj.1 (show s[n].toNat = 58 by omega))
          have d1 : ((s[n].toNat : Int) == 58) = false := beq_eq_false_iff_ne.2 d2
          have HNN : Hid (noB 44 (s.data.toList.take (n + 1)) ∧ noB 58 (s.data.toList.take (n + 1))) := ⟨noB_step HNB.out.1 HYB.out h44, noB_step HNB.out.2 HYB.out h58⟩
          clear h44 h58
          go_wp2_with fail
          go_round
          case rel => exact ⟨n + 1, by omega, by go_num, HNN⟩
          case measure => simp [intOf]; omega
    · obtain rfl : n = s.size := by omega
      have HW : Hid (wordB s.data.toList = !s.data.toList.isEmpty) := by
        have h := HNB.out
        rw [List.take_of_length_le (by rw [HLE.out]; exact Nat.le_refl _)] at h
        exact wordB_end h.1 h.2
      have hkb := str_nil2 s
      by_cases hkd : s.data.toList = []
      · have HB : Hid (wordB s.data.toList = false) := by unfold Hid; rw [HW.out, hkd]; rfl
        have d1 : s.toList = [] := by rw [hkb]; exact hkd
        have d2 : (s.toList == []) = true := by rw [d1]; rfl
        have d3 : (s.toList != []) = false := by rw [d1]; rfl
        have d4 : s.toList.isEmpty = true := by rw [d1]; rfl
        clear hkd hkb HW HNB
        go_wp2_with fail
        go_ret
        exact ⟨by rw [HB.out]; rfl, Below.refl _ _⟩
      · have HB : Hid (wordB s.data.toList = true) := by unfold Hid; rw [HW.out, List.isEmpty_eq_false_iff.2 hkd]; rfl
        have d1 : ¬ s.toList = [] := by rw [hkb]; exact hkd
        have d2 : (s.toList == []) = false := beq_eq_false_iff_ne.2 d1
        have d3 : (s.toList != []) = true := bne_iff_ne.2 d1
        have d4 : s.toList.isEmpty = false := List.isEmpty_eq_false_iff.2 d1
        clear hkd hkb HW HNB
        go_wp2_with fail
        go_ret
        exact ⟨by rw [HB.out]; rfl, Below.refl _ _⟩

theorem str_nil {l : List UInt8} : ((bs l).toList = []) = (l = []) := by
  have h := bs_lit (K := l) (L := []) (M := []) (by decide +kernel)
  exact h
/-- The cells of a new block of three. -/
theorem three_new (w : World) (a b c : Value) (T : TypeId) : ∀ (j : Nat) (u' : Value), ([a, b, c] : List Value)[j]? = some u' → (w.alloc (.cells #[a, b, c] T)).cell? ⟨w.heap.size, j, none⟩ = some u' := fun j u' hj => by
  rw [World.cell?_alloc_at _ _ _ _ rfl]; simpa using hj
section
variable {w V X : World} {P : List (List UInt8)} {g : Grf} {An At : Option Addr} {cn ct : Nat} {xs : List Value} {k : Nat}
end

set_option maxRecDepth 100000 in
set_option maxHeartbeats 4000000 in
theorem rkinds_any (l : List Knd) (v : Value) (w : World) (hv : Sl kndL w v l) :
    Calls Tryz.prog 18 #[v] w fun e w' => e = .returned (.tuple #[.string (checkE l).1, .int .i64 (checkE l).2]) ∧ Below w.heap.size w w' := by
  obtain ⟨A, c, rfl, hlc, hcA⟩ := hv.form
  unfold maxLen at hcA
  have hlm : (l.length : Int) ≤ 9223372036854775807 := by omega
  by_cases h12 : 12 < l.length
  · have HE : Hid (checkE l = (.empty, 4)) := by unfold Hid checkE; rw [if_pos h12]
    have h12' : (12 : Int) < (l.length : Int) := by omega
    clear hv
    go_enter Tryz.func18, Tryz.ntmps18
    go_wp2_with fail
    go_ret2
    exact ⟨by rw [HE.out]; rfl, Below.refl _ _⟩
  have h12' : (l.length : Int) ≤ 12 := by omega
  have HE0 : Hid (checkE l = kindsE [] l) := by unfold Hid checkE; rw [if_neg h12]
  go_enter Tryz.func18, Tryz.ntmps18
  go_wp2_with fail
  go_loopw [4] (fun i wr => ∃ j : Nat, j ≤ l.length ∧ i = .int .i64 j ∧ Below w.heap.size w wr ∧ Hid (kindsE [] l = kindsE (l.take j) (l.drop j)) ∧ Hid (Wf (l.take j) ∧ ∀ x ∈ l.take j, x.fields.length ≤ 8)) (fun i _ => l.length - (intOf i).toNat)
  case atStart => exact ⟨0, Nat.zero_le _, rfl, Below.refl _ _, rfl, fun i k hk => by simp at hk, fun x hx => by simp at hx⟩
  case round =>
    obtain ⟨j, hj, rfl, hbr, HR, HS⟩ := hrel
    by_cases hlt : j < l.length
    · obtain ⟨k, hk⟩ : ∃ k, l[j]? = some k := ⟨_, List.getElem?_eq_getElem hlt⟩
      obtain ⟨b, o, hAe, u, x, hnm, hso, hsf, c0, c1, c2⟩ := knd_at (hv.below hbr) hk
      subst hAe
      have hlt' : (j : Int) < (l.length : Int) := by omega
      have hone := rkind1_any l j k _ wr (hv.below hbr) hk HS.out.1 (by omega) HS.out.2
      have HK := Lib.hid (kindsE_step hk HR.out)
      have HT := Lib.hid (take_step hk)
      have HKK := Lib.hid hk
      clear hk HR c1 c2 hso hsf
      go_wp2_with fail
      refine hone.mono ?_
      clear hone
      rintro e w3 ⟨rfl, hb3⟩
      have hB3 := hbr.trans (hb3.mono hbr.size)
      have x0 := cell_below hb3 c0
      clear c0
      by_cases he : oneE (l.take j) k = 0
      · have HN : Hid (kindsE [] l = kindsE (l.take (j + 1)) (l.drop (j + 1))) := by unfold Hid; rw [HK.out, if_pos he]
        have HS2 : Hid (Wf (l.take (j + 1)) ∧ ∀ x ∈ l.take (j + 1), x.fields.length ≤ 8) := by
          refine ⟨wf_snoc HS.out.1 HKK.out (oneE_zero he).new (oneE_zero he).ofs, ?_⟩
          intro x hx
          rw [HT.out] at hx
          rcases List.mem_append.1 hx with h | h
          · exact HS.out.2 x h
          · simp at h; subst h; exact (oneE_ofl he).2
        rw [he]
        clear he HK
        go_wp2_with fail
        go_roundw
        case rel => exact ⟨j + 1, by omega, by go_num, hB3, HN, HS2⟩
        case measure => simp [intOf]; omega
      · have HE : Hid (checkE l = (k.name, oneE (l.take j) k)) := by unfold Hid; rw [HE0.out, HK.out, if_neg he]
        have hne := he
        clear HK
        generalize oneE (l.take j) k = z at *
        go_wp2_with fail
        go_ret2
        exact ⟨by rw [HE.out]; rfl, hB3⟩
    · obtain rfl : j = l.length := by omega
      have HE : Hid (checkE l = (.empty, 0)) := by unfold Hid; rw [HE0.out, HR.out, List.drop_length]; rfl
      clear hv
      go_wp2_with fail
      go_ret2
      exact ⟨by rw [HE.out]; rfl, hbr⟩


set_option maxHeartbeats 1000000 in
theorem rbond_any (l : List Bnd) (name : ByteArray) (v : Value) (w : World) (hv : Sl bndL w v l) : Calls Tryz.prog 12 #[v, .string name] w fun e w' => e = .returned (.int .i64 (bFind l name)) ∧ w = w' := by
  obtain ⟨A, c, rfl, hlc, hcm⟩ := hv.form
  unfold maxLen at hcm
  go_enter Tryz.func12, Tryz.ntmps12
  go_wp2_with fail
  go_loop [5] (fun i => ∃ k : Nat, k ≤ l.length ∧ i = .int .i64 k ∧ Hid (∀ j x, j < k → l[j]? = some x → decide (x.name = name) = false)) (fun i => l.length - (intOf i).toNat)
  case atStart => exact ⟨0, Nat.zero_le _, rfl, fun j x hj => absurd hj (Nat.not_lt_zero _)⟩
  case round =>
    obtain ⟨k, hk, rfl, HA⟩ := hrel
    by_cases hlt : k < l.length
    · obtain ⟨d, hd⟩ : ∃ d, l[k]? = some d := ⟨_, List.getElem?_eq_getElem hlt⟩
      obtain ⟨b, o, rfl, _, c0, _⟩ := bnd_at hv hd
      have HD : Hid (l[k]? = some d) := hd
      clear hd hv
      by_cases hq0 : d.name = name
      · have hq : decide (d.name = name) = true := decide_eq_true hq0
        have HE : Hid (bFind l name = k) := by unfold Hid bFind; exact idxI_hit (p := fun k : Bnd => decide (k.name = name)) HA.out HD.out hq
        clear hq
        subst hq0
        go_wp2_with fail
        go_ret
        exact ⟨by rw [HE.out]; rfl, rfl⟩
      · have hq : decide (d.name = name) = false := decide_eq_false hq0
        have hqb : (d.name.toList == name.toList) = false := by rw [bytes_beq]; exact hq
        have HS : Hid (∀ j y, j < k + 1 → l[j]? = some y → decide (y.name = name) = false) := miss_step (p := fun k : Bnd => decide (k.name = name)) HA.out HD.out hq
        go_wp2_with fail
        go_round
        case rel => exact ⟨k + 1, by omega, by go_num, HS⟩
        case measure => simp [intOf]; omega
    · have hkl : k = l.length := by omega
      subst hkl
      have HE : Hid (bFind l name = -1) := by unfold Hid bFind; exact idxI_miss (p := fun k : Bnd => decide (k.name = name)) HA.out
      clear hv
      go_wp2_with fail
      go_ret
      exact ⟨by rw [HE.out]; rfl, rfl⟩
/-- The range of a bond, as the document says it. -/
theorem rng_ref (b : Bnd) : rngB b ↔ (b.mn < 0 ∨ 20 < b.mn ∨ b.mx < -1 ∨ 20 < b.mx ∨ (0 ≤ b.mx ∧ b.mx < b.mn)) := by
  unfold rngB
  constructor
  · rintro (h | h | ⟨h1, h2⟩)
    · exact .inl h
    · exact .inr (.inl h)
    · rcases h2 with h2 | h2
      · by_cases h3 : b.mx < -1
        · exact .inr (.inr (.inl h3))
        · exact .inr (.inr (.inr (.inr ⟨by omega, h2⟩)))
      · exact .inr (.inr (.inr (.inl h2)))
  · rintro (h | h | h | h | ⟨h1, h2⟩)
    · exact .inl h
    · exact .inr (.inl h)
    · by_cases h0 : b.mn < 0
      · exact .inl h0
      · exact .inr (.inr ⟨by omega, .inl (by omega)⟩)
    · exact .inr (.inr ⟨by omega, .inr h⟩)
    · exact .inr (.inr ⟨by omega, .inl h2⟩)
set_option maxRecDepth 100000 in
set_option maxHeartbeats 8000000 in
theorem rschema_any (s : Scm) (vk vb : Value) (w : World) (hv : ScmR w vk vb s) :
    Calls Tryz.prog 4 #[.agg #[vk, vb]] w fun e w' => e = .returned (.tuple #[.string (scmE s).1, .int .i64 (scmE s).2]) ∧ Below w.heap.size w w' := by
  obtain ⟨Ak, ck, rfl, _, _⟩ := hv.1.form
  obtain ⟨Ab, cb, rfl, hlc, hcm⟩ := hv.2.form
  have hb0 : Below w.heap.size w (w.alloc (.cells #[.slice Ak s.kinds.length ck, .slice Ab s.bonds.length cb] 25)) := (Below.refl _ _).alloc (Nat.le_refl _) _
  obtain ⟨x0, x1⟩ := cell_box2 w (.slice Ak s.kinds.length ck) (.slice Ab s.bonds.length cb) 25
  have HV := Lib.hid (hv.below hb0)
  have hck := rkinds_any s.kinds _ _ (hv.1.below hb0)
  have HE0 : Hid (scmE s = if (checkE s.kinds).2 = 0 then (if 12 < s.bonds.length then (.empty, 4) else bndsE s.kinds [] s.bonds) else checkE s.kinds) := rfl
  have hw0 := hb0.size
  clear hv
  go_enter Tryz.func4, Tryz.ntmps4
  go_wp2_with fail
  generalize w.alloc (.cells #[.slice Ak s.kinds.length ck, .slice Ab s.bonds.length cb] 25) = w0 at *
  refine hck.mono ?_
  clear hck
  rintro e w1 ⟨rfl, hb1⟩
  have hB1 := hb0.trans (hb1.mono hw0)
  have x0 := cell_below hb1 x0
  have x1 := cell_below hb1 x1
  have HV1 := Lib.hid (HV.out.below hb1)
  have hw1 := hB1.size
  generalize hce : checkE s.kinds = ce at *
  clear hce
  by_cases he : ce.2 = 0
  case neg =>
    have HF : Hid (scmE s = ce) := by unfold Hid; rw [HE0.out, if_neg he]
    have heb : (ce.2 != 0) = true := by simpa using he
    clear he HE0
    go_wp2_with fail
    go_ret2
    exact ⟨by rw [HF.out]; rfl, hB1⟩
  have HE1 : Hid (scmE s = if 12 < s.bonds.length then (.empty, 4) else bndsE s.kinds [] s.bonds) := by unfold Hid; rw [HE0.out, if_pos he]
  have heb : (ce.2 != 0) = false := by simpa using he
  clear he HE0
  by_cases h12 : 12 < s.bonds.length
  · have HF : Hid (scmE s = (.empty, 4)) := by unfold Hid; rw [HE1.out, if_pos h12]
    have h12' : (12 : Int) < (s.bonds.length : Int) := by omega
    clear HE1
    go_wp2_with fail
    go_ret2
    exact ⟨by rw [HF.out]; rfl, hB1⟩
  have HE2 : Hid (scmE s = bndsE s.kinds [] s.bonds) := by unfold Hid; rw [HE1.out, if_neg h12]
  have h12' : (s.bonds.length : Int) ≤ 12 := by omega
  clear HE1 h12
  go_wp2_with fail
  go_loopw [6] (fun i wr => ∃ k : Nat, k ≤ s.bonds.length ∧ i = .int .i64 k ∧ Below w1.heap.size w1 wr ∧ Hid (scmE s = bndsE s.kinds (s.bonds.take k) (s.bonds.drop k))) (fun i _ => s.bonds.length - (intOf i).toNat)
  case atStart => exact ⟨0, Nat.zero_le _, rfl, Below.refl _ _, HE2.out⟩
  case round =>
    clear HE2
    obtain ⟨k, hk, rfl, hb, HR⟩ := hrel
    have x0 := cell_below hb x0
    have x1 := cell_below hb x1
    have hbW := hB1.trans (hb.mono hw1)
    by_cases hlt : k < s.bonds.length
    · obtain ⟨d, hd⟩ : ∃ d, s.bonds[k]? = some d := ⟨_, List.getElem?_eq_getElem hlt⟩
      obtain ⟨gb, o, rfl, hok, q0, q1, q2, q3, q4⟩ := bnd_at (HV1.out.below hb).2 hd
      have hlt' : (k : Int) < (s.bonds.length : Int) := by omega
      have hic : (k : Int) ≤ (cb : Int) := by omega
      have hk0 : (0 : Int) ≤ (k : Int) := by omega
      obtain ⟨z0, z1, z2, z3, z4⟩ := cell_box5 wr (.string d.name) (.string d.src) (.string d.dst) (.int .i64 d.mn) (.int .i64 d.mx) 40
      have ha1 : Below wr.heap.size wr (wr.alloc (.cells #[.string d.name, .string d.src, .string d.dst, .int .i64 d.mn, .int .i64 d.mx] 40)) := (Below.refl _ _).alloc (Nat.le_refl _) _
      have hb2 := hb.trans (ha1.mono hb.size)
      have HST := Lib.hid (bndsE_step hd HR.out)
      have HB0 : Hid (bndE s.kinds (s.bonds.take k) d = if nameE d.name = 0 then (if 0 ≤ bFind (s.bonds.take k) d.name then 7 else if kFind s.kinds d.src < 0 ∨ kFind s.kinds d.dst < 0 then 5 else if rngB d then 1 else 0) else nameE d.name) := rfl
      have hrn := fun W => rname_any d.name W hok.1
      have hvt := (HV1.out.below hb2).2.take (k := k) (by omega)
      have x0 := cell_below ha1 x0
      have x1 := cell_below ha1 x1
      clear hd hok HR
      go_upto_region 10 with fail
      generalize wr.alloc (.cells #[.string d.name, .string d.src, .string d.dst, .int .i64 d.mn, .int .i64 d.mx] 40) = w2 at *
      have hBX := hB1.trans (hb2.mono hw1)
      clear q0 q1 q2 q3 q4
      by_cases hn : nameE d.name = 0
      case neg =>
        have HBE : Hid (bndE s.kinds (s.bonds.take k) d = 2) := by unfold Hid; rw [HB0.out, if_neg hn, nameE_two hn]
        have hrn2 := hrn w2
        rw [nameE_two hn] at hrn2
        clear hrn hn HB0 hvt
        go_wp2_with fail
        refine hrn2.mono ?_
        clear hrn2
        rintro e w' ⟨rfl, rfl⟩
        -- 2: which fault
        have HE : Hid (scmE s = (d.name, 2)) := by unfold Hid; rw [HST.out, if_neg (by rw [HBE.out]; decide), HBE.out]
        clear HST HBE
        go_wp2_with fail
        go_ret2
        exact ⟨by rw [HE.out]; rfl, hBX⟩
      have hrn2 := hrn w2
      rw [hn] at hrn2
      have HB1 : Hid (bndE s.kinds (s.bonds.take k) d = if 0 ≤ bFind (s.bonds.take k) d.name then 7 else if kFind s.kinds d.src < 0 ∨ kFind s.kinds d.dst < 0 then 5 else if rngB d then 1 else 0) := by unfold Hid; rw [HB0.out, if_pos hn]
      clear hrn hn HB0
      go_wp2_with fail
      refine hrn2.mono ?_
      clear hrn2
      rintro e w' ⟨rfl, rfl⟩
      go_wp2_with fail
      refine wp_mid_k 6 _ rfl rfl (by kernel_rfl) (by kernel_rfl) ?_
      simp only [List.take_succ_cons, List.take_zero, List.drop_succ_cons, List.drop_zero]
      repeat (go_big_quiet_step (fail))
      refine wpQuiet_nil ?_
      intro _ hw'
      obtain ⟨nq, hw''⟩ := hw'
      subst hw''
      intro K hK
      have hbd := Go.below_drewN (Below.refl w2.heap.size w2) nq
      have hkf := rbond_any (s.bonds.take k) d.name _ (w2.drewN nq) (hvt.below hbd)
      clear hvt
      go_wp2_with fail
      refine hkf.mono ?_
      clear hkf
      rintro e w' ⟨rfl, rfl⟩
      generalize hzz : bFind (s.bonds.take k) d.name = z at *
      clear hzz
      refine hK _ _ ?_
      repeat (go_big_quiet_step (fail))
      refine wpQuiet_nil ?_
      intro _ hw'
      obtain ⟨nq2, hw''⟩ := hw'
      subst hw''
      clear hK
      have hbd2 := Go.below_drewN hbd nq2
      generalize (w2.drewN nq).drewN nq2 = w3 at *
      have x0 := cell_below hbd2 x0
      have x1 := cell_below hbd2 x1
      have z0 := cell_below hbd2 z0
      have z1 := cell_below hbd2 z1
      have z2 := cell_below hbd2 z2
      have z3 := cell_below hbd2 z3
      have z4 := cell_below hbd2 z4
      have hb4 := hb2.trans (hbd2.mono hb2.size)
      have hBX := hB1.trans (hb4.mono hw1)
      clear hbd hbd2 hb2
      by_cases hz : 0 ≤ z
      · have HBE : Hid (bndE s.kinds (s.bonds.take k) d = 7) := by unfold Hid; rw [HB1.out, if_pos hz]
        clear HB1
        -- 7: which fault
        have HE : Hid (scmE s = (d.name, 7)) := by unfold Hid; rw [HST.out, if_neg (by rw [HBE.out]; decide), HBE.out]
        clear HST HBE
        go_wp2_with fail
        go_ret2
        exact ⟨by rw [HE.out]; rfl, hBX⟩
      have hz' : z < 0 := by omega
      have HB2 : Hid (bndE s.kinds (s.bonds.take k) d = if kFind s.kinds d.src < 0 ∨ kFind s.kinds d.dst < 0 then 5 else if rngB d then 1 else 0) := by unfold Hid; rw [HB1.out, if_neg hz]
      have hk1 := rkind_any s.kinds d.src _ w3 (HV1.out.below hb4).1
      have hk2 := rkind_any s.kinds d.dst _ w3 (HV1.out.below hb4).1
      clear HB1 hz
      generalize kFind s.kinds d.src = k1 at *
      generalize kFind s.kinds d.dst = k2 at *
      go_wp2_with fail
      refine hk1.mono ?_
      clear hk1
      rintro e w' ⟨rfl, rfl⟩
      by_cases hs : k1 < 0
      · have HBE : Hid (bndE s.kinds (s.bonds.take k) d = 5) := by unfold Hid; rw [HB2.out, if_pos (.inl hs)]
        clear HB2 hk2
        -- 5: which fault
        have HE : Hid (scmE s = (d.name, 5)) := by unfold Hid; rw [HST.out, if_neg (by rw [HBE.out]; decide), HBE.out]
        clear HST HBE
        go_wp2_with fail
        go_ret2
        exact ⟨by rw [HE.out]; rfl, hBX⟩
      have hs' : 0 ≤ k1 := by omega
      have hsd : decide (k1 < 0) = false := decide_eq_false hs
      go_wp2_with fail
      refine hk2.mono ?_
      clear hk2
      rintro e w' ⟨rfl, rfl⟩
      by_cases ht : k2 < 0
      · have HBE : Hid (bndE s.kinds (s.bonds.take k) d = 5) := by unfold Hid; rw [HB2.out, if_pos (.inr ht)]
        clear HB2 hs
        -- 5: which fault
        have HE : Hid (scmE s = (d.name, 5)) := by unfold Hid; rw [HST.out, if_neg (by rw [HBE.out]; decide), HBE.out]
        clear HST HBE
        go_wp2_with fail
        go_ret2
        exact ⟨by rw [HE.out]; rfl, hBX⟩
      have ht' : 0 ≤ k2 := by omega
      have HB3 : Hid (bndE s.kinds (s.bonds.take k) d = if rngB d then 1 else 0) := by unfold Hid; rw [HB2.out, if_neg (by omega)]
      have HRNG : True := trivial
      clear HB2 hs ht hsd
      by_cases r1 : d.mn < 0
      · have HBE : Hid (bndE s.kinds (s.bonds.take k) d = 1) := by unfold Hid; rw [HB3.out, if_pos ((rng_ref d).2 (.inl r1))]
        clear HB3 HRNG
        -- 1: which fault
        have HE : Hid (scmE s = (d.name, 1)) := by unfold Hid; rw [HST.out, if_neg (by rw [HBE.out]; decide), HBE.out]
        clear HST HBE
        go_wp2_with fail
        go_ret2
        exact ⟨by rw [HE.out]; rfl, hBX⟩
      have r1' : 0 ≤ d.mn := by omega
      by_cases r2 : 20 < d.mn
      · clear r1
        have HBE : Hid (bndE s.kinds (s.bonds.take k) d = 1) := by unfold Hid; rw [HB3.out, if_pos ((rng_ref d).2 (.inr (.inl r2)))]
        clear HB3 HRNG
        -- 1: which fault
        have HE : Hid (scmE s = (d.name, 1)) := by unfold Hid; rw [HST.out, if_neg (by rw [HBE.out]; decide), HBE.out]
        clear HST HBE
        go_wp2_with fail
        go_ret2
        exact ⟨by rw [HE.out]; rfl, hBX⟩
      have r2' : d.mn ≤ 20 := by omega
      by_cases r3 : d.mx < -1
      · clear r1 r2
        have HBE : Hid (bndE s.kinds (s.bonds.take k) d = 1) := by unfold Hid; rw [HB3.out, if_pos ((rng_ref d).2 (.inr (.inr (.inl r3))))]
        clear HB3 HRNG
        -- 1: which fault
        have HE : Hid (scmE s = (d.name, 1)) := by unfold Hid; rw [HST.out, if_neg (by rw [HBE.out]; decide), HBE.out]
        clear HST HBE
        go_wp2_with fail
        go_ret2
        exact ⟨by rw [HE.out]; rfl, hBX⟩
      have r3' : -1 ≤ d.mx := by omega
      by_cases r4 : 20 < d.mx
      · clear r1 r2 r3
        have HBE : Hid (bndE s.kinds (s.bonds.take k) d = 1) := by unfold Hid; rw [HB3.out, if_pos ((rng_ref d).2 (.inr (.inr (.inr (.inl r4)))))]
        clear HB3 HRNG
        -- 1: which fault
        have HE : Hid (scmE s = (d.name, 1)) := by unfold Hid; rw [HST.out, if_neg (by rw [HBE.out]; decide), HBE.out]
        clear HST HBE
        go_wp2_with fail
        go_ret2
        exact ⟨by rw [HE.out]; rfl, hBX⟩
      have r4' : d.mx ≤ 20 := by omega
      by_cases r5 : 0 ≤ d.mx
      · by_cases r6 : d.mx < d.mn
        · clear r1 r2 r3 r4
          have HBE : Hid (bndE s.kinds (s.bonds.take k) d = 1) := by unfold Hid; rw [HB3.out, if_pos ((rng_ref d).2 (.inr (.inr (.inr (.inr ⟨r5, r6⟩)))))]
          clear HB3 HRNG
          -- 1: which fault
          have HE : Hid (scmE s = (d.name, 1)) := by unfold Hid; rw [HST.out, if_neg (by rw [HBE.out]; decide), HBE.out]
          clear HST HBE
          go_wp2_with fail
          go_ret2
          exact ⟨by rw [HE.out]; rfl, hBX⟩
        · have r6' : d.mn ≤ d.mx := by omega
          clear r1 r2 r3 r4 r6
          have HN : Hid (scmE s = bndsE s.kinds (s.bonds.take (k + 1)) (s.bonds.drop (k + 1))) := by
            have h0 : bndE s.kinds (s.bonds.take k) d = 0 := by rw [HB3.out, if_neg (fun h => absurd ((rng_ref d).1 h) (by omega))]
            unfold Hid; rw [HST.out, if_pos h0]
          clear HST HB3 HRNG
          go_wp2_with fail
          go_roundw
          case rel => exact ⟨k + 1, by omega, by go_num, hb4, HN⟩
          case measure => simp [intOf]; omega
      · have r5' : d.mx < 0 := by omega
        clear r1 r2 r3 r4 r5
        have HN : Hid (scmE s = bndsE s.kinds (s.bonds.take (k + 1)) (s.bonds.drop (k + 1))) := by
          have h0 : bndE s.kinds (s.bonds.take k) d = 0 := by rw [HB3.out, if_neg (fun h => absurd ((rng_ref d).1 h) (by omega))]
          unfold Hid; rw [HST.out, if_pos h0]
        clear HST HB3 HRNG
        go_wp2_with fail
        go_roundw
        case rel => exact ⟨k + 1, by omega, by go_num, hb4, HN⟩
        case measure => simp [intOf]; omega
    · obtain rfl : k = s.bonds.length := by omega
      have HE : Hid (scmE s = (.empty, 0)) := by unfold Hid; rw [HR.out, List.drop_length]; rfl
      clear HR
      go_wp2_with fail
      go_ret2
      exact ⟨by rw [HE.out]; rfl, hbW⟩
theorem rright_any (s : Scm) (vk vb : Value) (w : World) (hv : ScmR w vk vb s) : Calls Tryz.prog 32 #[.agg #[vk, vb]] w fun e w' => e = .returned (.int .i64 (scmE s).2) ∧ Below w.heap.size w w' := by
  have hb0 : Below w.heap.size w (w.alloc (.cells #[vk, vb] 25)) := (Below.refl _ _).alloc (Nat.le_refl _) _
  have h1 := rschema_any s vk vb _ (hv.below hb0)
  obtain ⟨z, hz⟩ : ∃ z, z = scmE s := ⟨_, rfl⟩
  rw [← hz] at h1
  have HZ := Lib.hid hz
  obtain ⟨A, c, rfl, _, _⟩ := hv.1.form
  obtain ⟨A', c', rfl, _, _⟩ := hv.2.form
  clear hv hz
  go_enter Tryz.func32, Tryz.ntmps32
  go_wp2_with fail
  refine h1.mono ?_
  clear h1
  rintro e w2 ⟨rfl, hb2⟩
  go_wp2_with fail
  go_ret
  exact ⟨by rw [← HZ.out]; rfl, hb0.trans (hb2.mono (by simp))⟩

/-- What readBond answers. -/
def BndR (l : List (List UInt8)) (w : World) (e : Ending) (w' : World) : Prop := ∃ (a b c : ByteArray) (x y : Int),
  e = .returned (.tuple #[.agg #[.string a, .string b, .string c, .int .i64 x, .int .i64 y], .bool (readBndL l).isSome]) ∧ (∀ d, readBndL l = some d → a = d.name ∧ b = d.src ∧ c = d.dst ∧ x = d.mn ∧ y = d.mx ∧ d.ok) ∧ Below w.heap.size w w'
theorem BndR.bad {l : List (List UInt8)} {w w' : World} {e : Ending} {a b c : ByteArray} {x y : Int} (h : readBndL l = none) (he : e = .returned (.tuple #[.agg #[.string a, .string b, .string c, .int .i64 x, .int .i64 y], .bool false])) (hb : Below w.heap.size w w') : BndR l w e w' :=
  ⟨a, b, c, x, y, by rw [h]; exact he, (fun d hn => by rw [h] at hn; cases hn), hb⟩
theorem res5 {w w1 : World} {T : TypeId} {c0 c1 c2 c3 c4 : Value} (a b c d e : Value) (hB : Below w.heap.size w w1) (h : w1.heap[w.heap.size]? = some (.cells #[c0, c1, c2, c3, c4] T (0, 0))) :
    Below w.heap.size w (((((w1.setCell ⟨w.heap.size, 0, none⟩ a).setCell ⟨w.heap.size, 1, none⟩ b).setCell ⟨w.heap.size, 2, none⟩ c).setCell ⟨w.heap.size, 3, none⟩ d).setCell ⟨w.heap.size, 4, none⟩ e) ∧
    (((((w1.setCell ⟨w.heap.size, 0, none⟩ a).setCell ⟨w.heap.size, 1, none⟩ b).setCell ⟨w.heap.size, 2, none⟩ c).setCell ⟨w.heap.size, 3, none⟩ d).setCell ⟨w.heap.size, 4, none⟩ e).heap[w.heap.size]? = some (.cells #[a, b, c, d, e] T (0, 0)) :=
  ⟨((((hB.setCell (p := ⟨_, 0, none⟩) (Nat.le_refl _) _).setCell (p := ⟨_, 1, none⟩) (Nat.le_refl _) _).setCell (p := ⟨_, 2, none⟩) (Nat.le_refl _) _).setCell (p := ⟨_, 3, none⟩) (Nat.le_refl _) _).setCell (p := ⟨_, 4, none⟩) (Nat.le_refl _) _,
    setCell_block (setCell_block (setCell_block (setCell_block (setCell_block h 0 a) 1 b) 2 c) 3 d) 4 e⟩
def bndOf (a b c e : List UInt8) (nd ne : Option Nat) : Option Bnd := match nd with
  | none => none
  | some mn => if e = anyW then some ⟨bs a, bs b, bs c, mn, -1⟩ else match ne with
    | none => none
    | some mx => some ⟨bs a, bs b, bs c, mn, mx⟩
theorem readBnd_no {l : List (List UInt8)} (h : l.length ≠ 6) : readBndL l = none := by
  unfold readBndL
  split
  · simp at h
  · rfl
theorem readBnd_six (x a b c d e : List UInt8) : readBndL [x, a, b, c, d, e] = if wordB a = true ∧ wordB b = true ∧ wordB c = true then bndOf a b c e (numL d 2) (numL e 2) else none := rfl
theorem six_parts {P : List (List UInt8)} (h : P.length = 6) : ∃ a b c d e f, P = [a, b, c, d, e, f] := by
  match P, h with
  | [a, b, c, d, e, f], _ => exact ⟨a, b, c, d, e, f, rfl⟩
set_option maxRecDepth 100000 in
set_option maxHeartbeats 8000000 in
theorem rbnd_any (l : List (List UInt8)) (g n : Nat) (w : World) (hl : l.length = n) (hc : ∀ i x, l[i]? = some x → w.cell? ⟨g, i, none⟩ = some (.string (bs x)) ∧ x.length ≤ 1048576) (hn : n ≤ 1048577) (hT : TxOk w) :
    Calls Tryz.prog 37 #[.slice (some ⟨g, 0, none⟩) n n] w (BndR l w) := by
  have hb0 : Below w.heap.size w (w.alloc (.cells #[.string ⟨#[]⟩, .string ⟨#[]⟩, .string ⟨#[]⟩, .int .i64 0, .int .i64 0] 40)) := (Below.refl _ _).alloc (Nat.le_refl _) _
  have hbk := heap_alloc_new w (.cells #[.string ⟨#[]⟩, .string ⟨#[]⟩, .string ⟨#[]⟩, .int .i64 0, .int .i64 0] 40)
  have HT := Lib.hid (hT.below hb0)
  have HTW := Lib.hid hT
  by_cases h6 : n = 6
  case neg =>
    have HN : Hid (readBndL l = none) := readBnd_no (by omega)
    have h6' : ((n : Int) != 6) = true := by rw [bne_iff_ne]; omega
    clear hc hT HT h6 hl
    go_enter Tryz.func37, Tryz.ntmps37
    go_upto_region 1 with fail
    generalize w.alloc (.cells #[.string ⟨#[]⟩, .string ⟨#[]⟩, .string ⟨#[]⟩, .int .i64 0, .int .i64 0] 40) = W0 at *
    -- the answer: none; W: W0, its result's box: hbk, above w: hb0
    have HZ5 := Lib.hid (res5 (.string ⟨#[]⟩) (.string ⟨#[]⟩) (.string ⟨#[]⟩) (.int .i64 0) (.int .i64 0) hb0 hbk)
    -- the cells of the two boxes: hbk: the result's, $2: the bond's
    have r0 := block_cell hbk 0
    have r1 := block_cell hbk 1
    have r2 := block_cell hbk 2
    have r3 := block_cell hbk 3
    have r4 := block_cell hbk 4
    have f0 := block_free hbk 0
    have f1 := block_free hbk 1
    have f2 := block_free hbk 2
    have f3 := block_free hbk 3
    have f4 := block_free hbk 4
    go_wp2_with fail
    obtain ⟨k1, k2⟩ := HZ5.out
    have p0 := block_cell k2 0
    have p1 := block_cell k2 1
    have p2 := block_cell k2 2
    have p3 := block_cell k2 3
    have p4 := block_cell k2 4
    exact bodyPost_ret (v := .tuple #[.agg #[.string ⟨#[]⟩, .string ⟨#[]⟩, .string ⟨#[]⟩, .int .i64 0, .int .i64 0], .bool false]) (by simp [results, Tryz.results37, go_sem, p0, p1, p2, p3, p4]) rfl (BndR.bad HN.out rfl k1)
  subst h6
  obtain ⟨x0, a, b, c, d, e5, rfl⟩ := six_parts hl
  have h6' : ((6 : Int) != 6) = false := rfl
  obtain ⟨q1, ha⟩ := hc 1 a rfl
  obtain ⟨q2, hb⟩ := hc 2 b rfl
  obtain ⟨q3, hcl⟩ := hc 3 c rfl
  obtain ⟨q4, hd⟩ := hc 4 d rfl
  obtain ⟨q5, he⟩ := hc 5 e5 rfl
  have HQ := Lib.hid (And.intro q1 (And.intro q2 (And.intro q3 (And.intro q4 q5))))
  have q1 := cell_below hb0 q1
  have q2 := cell_below hb0 q2
  have q3 := cell_below hb0 q3
  have HA : Hid (∀ wx, Calls Tryz.prog 56 #[.string (bs a)] wx fun e w' => e = .returned (.bool (wordB a)) ∧ Below wx.heap.size wx w') := fun wx => by
    have h := word_any (bs a) wx (by unfold Sm; rw [bs_size]; exact ha); rw [bs_list] at h; exact h
  have HB : Hid (∀ wx, Calls Tryz.prog 56 #[.string (bs b)] wx fun e w' => e = .returned (.bool (wordB b)) ∧ Below wx.heap.size wx w') := fun wx => by
    have h := word_any (bs b) wx (by unfold Sm; rw [bs_size]; exact hb); rw [bs_list] at h; exact h
  have HC : Hid (∀ wx, Calls Tryz.prog 56 #[.string (bs c)] wx fun e w' => e = .returned (.bool (wordB c)) ∧ Below wx.heap.size wx w') := fun wx => by
    have h := word_any (bs c) wx (by unfold Sm; rw [bs_size]; exact hcl); rw [bs_list] at h; exact h
  have HND : Hid (∀ wx, TxOk wx → Calls Tryz.prog 60 #[.string (bs d), .int .i64 (2 : Nat)] wx fun e w' => ∃ n : Int, e = .returned (.tuple #[.int .i64 n, .bool (numL d 2).isSome]) ∧ (∀ u, numL d 2 = some u → n = (u : Int)) ∧ Below wx.heap.size wx w') := by
    intro wx hw
    have h := num_any (bs d) (by unfold Sm; rw [bs_size]; exact hd) 2 (by omega) wx hw
    rw [bs_list] at h
    exact h
  have HNE : Hid (∀ wx, TxOk wx → Calls Tryz.prog 60 #[.string (bs e5), .int .i64 (2 : Nat)] wx fun e w' => ∃ n : Int, e = .returned (.tuple #[.int .i64 n, .bool (numL e5 2).isSome]) ∧ (∀ u, numL e5 2 = some u → n = (u : Int)) ∧ Below wx.heap.size wx w') := by
    intro wx hw
    have h := num_any (bs e5) (by unfold Sm; rw [bs_size]; exact he) 2 (by omega) wx hw
    rw [bs_list] at h
    exact h
  have HD2 := Lib.hid (readBnd_six x0 a b c d e5)
  have HI1 : Hid (∀ u, numL d 2 = some u → I64 (u : Int)) := fun u hu => num_i64 (by omega) hu
  have HI2 : Hid (∀ u, numL e5 2 = some u → I64 (u : Int)) := fun u hu => num_i64 (by omega) hu
  have HSM : Hid (Sm (bs a) ∧ Sm (bs b) ∧ Sm (bs c)) := by unfold Hid Sm; rw [bs_size, bs_size, bs_size]; exact ⟨ha, hb, hcl⟩
  have hel : (bs anyW).toList = [97, 110, 121] := by decide +kernel
  have hqe := bs_lit (K := e5) hel
  have HQE := Lib.hid hqe
  generalize numL d 2 = nd at *
  generalize numL e5 2 = ne at *
  generalize [x0, a, b, c, d, e5] = L at *
  clear hc hT hl ha hb hcl hd he q4 q5 hel hqe
  cases ha : wordB a with
  | false =>
    have HN : Hid (readBndL L = none) := by unfold Hid; rw [HD2.out, if_neg (fun h => by rw [ha] at h; cases h.1)]
    rw [ha] at HA
    clear HD2 HB HC HND HNE HI1 HI2 HSM HQE ha
    go_enter Tryz.func37, Tryz.ntmps37
    go_upto_region 1 with fail
    generalize w.alloc (.cells #[.string ⟨#[]⟩, .string ⟨#[]⟩, .string ⟨#[]⟩, .int .i64 0, .int .i64 0] 40) = W0 at *
    go_wp2_with fail
    refine (HA.out _).mono ?_
    rintro e w1 ⟨rfl, hb1⟩
    have hB1 := hb0.trans (hb1.mono hb0.size)
    have hbk1 := (hb1.block _ (Array.getElem?_eq_some_iff.1 hbk).1).trans hbk
    clear hb0 hb1 hbk HT q1 q2 q3 HA
    -- the answer: none; W: w1, its result's box: hbk1, above w: hB1
    have HZ5 := Lib.hid (res5 (.string ⟨#[]⟩) (.string ⟨#[]⟩) (.string ⟨#[]⟩) (.int .i64 0) (.int .i64 0) hB1 hbk1)
    -- the cells of the two boxes: hbk1: the result's, $2: the bond's
    have r0 := block_cell hbk1 0
    have r1 := block_cell hbk1 1
    have r2 := block_cell hbk1 2
    have r3 := block_cell hbk1 3
    have r4 := block_cell hbk1 4
    have f0 := block_free hbk1 0
    have f1 := block_free hbk1 1
    have f2 := block_free hbk1 2
    have f3 := block_free hbk1 3
    have f4 := block_free hbk1 4
    go_wp2_with fail
    obtain ⟨k1, k2⟩ := HZ5.out
    have p0 := block_cell k2 0
    have p1 := block_cell k2 1
    have p2 := block_cell k2 2
    have p3 := block_cell k2 3
    have p4 := block_cell k2 4
    exact bodyPost_ret (v := .tuple #[.agg #[.string ⟨#[]⟩, .string ⟨#[]⟩, .string ⟨#[]⟩, .int .i64 0, .int .i64 0], .bool false]) (by simp [results, Tryz.results37, go_sem, p0, p1, p2, p3, p4]) rfl (BndR.bad HN.out rfl k1)
  | true =>
  rw [ha] at HA
  cases hb : wordB b with
  | false =>
    have HN : Hid (readBndL L = none) := by unfold Hid; rw [HD2.out, if_neg (fun h => by rw [hb] at h; cases h.2.1)]
    rw [hb] at HB
    clear HD2 HC HND HNE HI1 HI2 HSM HQE ha hb
    go_enter Tryz.func37, Tryz.ntmps37
    go_upto_region 1 with fail
    generalize w.alloc (.cells #[.string ⟨#[]⟩, .string ⟨#[]⟩, .string ⟨#[]⟩, .int .i64 0, .int .i64 0] 40) = W0 at *
    go_wp2_with fail
    refine (HA.out _).mono ?_
    rintro e w1 ⟨rfl, hb1⟩
    have hB1 := hb0.trans (hb1.mono hb0.size)
    have hbk1 := (hb1.block _ (Array.getElem?_eq_some_iff.1 hbk).1).trans hbk
    have q2 := cell_below hb1 q2
    clear hb0 hb1 hbk HT q1 q3 HA
    go_wp2_with fail
    refine (HB.out _).mono ?_
    rintro e w2 ⟨rfl, hb2⟩
    have hB2 := hB1.trans (hb2.mono hB1.size)
    have hbk2 := (hb2.block _ (Array.getElem?_eq_some_iff.1 hbk1).1).trans hbk1
    clear hB1 hb2 hbk1 q2 HB
    -- the answer: none; W: w2, its result's box: hbk2, above w: hB2
    have HZ5 := Lib.hid (res5 (.string ⟨#[]⟩) (.string ⟨#[]⟩) (.string ⟨#[]⟩) (.int .i64 0) (.int .i64 0) hB2 hbk2)
    -- the cells of the two boxes: hbk2: the result's, $2: the bond's
    have r0 := block_cell hbk2 0
    have r1 := block_cell hbk2 1
    have r2 := block_cell hbk2 2
    have r3 := block_cell hbk2 3
    have r4 := block_cell hbk2 4
    have f0 := block_free hbk2 0
    have f1 := block_free hbk2 1
    have f2 := block_free hbk2 2
    have f3 := block_free hbk2 3
    have f4 := block_free hbk2 4
    go_wp2_with fail
    obtain ⟨k1, k2⟩ := HZ5.out
    have p0 := block_cell k2 0
    have p1 := block_cell k2 1
    have p2 := block_cell k2 2
    have p3 := block_cell k2 3
    have p4 := block_cell k2 4
    exact bodyPost_ret (v := .tuple #[.agg #[.string ⟨#[]⟩, .string ⟨#[]⟩, .string ⟨#[]⟩, .int .i64 0, .int .i64 0], .bool false]) (by simp [results, Tryz.results37, go_sem, p0, p1, p2, p3, p4]) rfl (BndR.bad HN.out rfl k1)
  | true =>
  rw [hb] at HB
  cases hcw : wordB c with
  | false =>
    have HN : Hid (readBndL L = none) := by unfold Hid; rw [HD2.out, if_neg (fun h => by rw [hcw] at h; cases h.2.2)]
    rw [hcw] at HC
    clear HD2 HND HNE HI1 HI2 HSM HQE ha hb hcw
    go_enter Tryz.func37, Tryz.ntmps37
    go_upto_region 1 with fail
    generalize w.alloc (.cells #[.string ⟨#[]⟩, .string ⟨#[]⟩, .string ⟨#[]⟩, .int .i64 0, .int .i64 0] 40) = W0 at *
    go_wp2_with fail
    refine (HA.out _).mono ?_
    rintro e w1 ⟨rfl, hb1⟩
    have hB1 := hb0.trans (hb1.mono hb0.size)
    have hbk1 := (hb1.block _ (Array.getElem?_eq_some_iff.1 hbk).1).trans hbk
    have q2 := cell_below hb1 q2
    have q3 := cell_below hb1 q3
    clear hb0 hb1 hbk HT q1 HA
    go_wp2_with fail
    refine (HB.out _).mono ?_
    rintro e w2 ⟨rfl, hb2⟩
    have hB2 := hB1.trans (hb2.mono hB1.size)
    have hbk2 := (hb2.block _ (Array.getElem?_eq_some_iff.1 hbk1).1).trans hbk1
    have q3 := cell_below hb2 q3
    clear hB1 hb2 hbk1 q2 HB
    go_wp2_with fail
    refine (HC.out _).mono ?_
    rintro e w3 ⟨rfl, hb3⟩
    have hB3 := hB2.trans (hb3.mono hB2.size)
    have hbk3 := (hb3.block _ (Array.getElem?_eq_some_iff.1 hbk2).1).trans hbk2
    clear hB2 hb3 hbk2 q3 HC
    -- the answer: none; W: w3, its result's box: hbk3, above w: hB3
    have HZ5 := Lib.hid (res5 (.string ⟨#[]⟩) (.string ⟨#[]⟩) (.string ⟨#[]⟩) (.int .i64 0) (.int .i64 0) hB3 hbk3)
    -- the cells of the two boxes: hbk3: the result's, $2: the bond's
    have r0 := block_cell hbk3 0
    have r1 := block_cell hbk3 1
    have r2 := block_cell hbk3 2
    have r3 := block_cell hbk3 3
    have r4 := block_cell hbk3 4
    have f0 := block_free hbk3 0
    have f1 := block_free hbk3 1
    have f2 := block_free hbk3 2
    have f3 := block_free hbk3 3
    have f4 := block_free hbk3 4
    go_wp2_with fail
    obtain ⟨k1, k2⟩ := HZ5.out
    have p0 := block_cell k2 0
    have p1 := block_cell k2 1
    have p2 := block_cell k2 2
    have p3 := block_cell k2 3
    have p4 := block_cell k2 4
    exact bodyPost_ret (v := .tuple #[.agg #[.string ⟨#[]⟩, .string ⟨#[]⟩, .string ⟨#[]⟩, .int .i64 0, .int .i64 0], .bool false]) (by simp [results, Tryz.results37, go_sem, p0, p1, p2, p3, p4]) rfl (BndR.bad HN.out rfl k1)
  | true =>
  rw [hcw] at HC
  have HD3 : Hid (readBndL L = bndOf a b c e5 nd ne) := by unfold Hid; rw [HD2.out, if_pos ⟨ha, hb, hcw⟩]
  clear HD2 ha hb hcw
  go_enter Tryz.func37, Tryz.ntmps37
  go_upto_region 1 with fail
  generalize w.alloc (.cells #[.string ⟨#[]⟩, .string ⟨#[]⟩, .string ⟨#[]⟩, .int .i64 0, .int .i64 0] 40) = W0 at *
  go_wp2_with fail
  refine (HA.out _).mono ?_
  rintro e w1 ⟨rfl, hb1⟩
  have hB1 := hb0.trans (hb1.mono hb0.size)
  have hbk1 := (hb1.block _ (Array.getElem?_eq_some_iff.1 hbk).1).trans hbk
  have HT1 := Lib.hid (HT.out.below hb1)
  have q2 := cell_below hb1 q2
  have q3 := cell_below hb1 q3
  clear hb0 hb1 hbk HT q1 HA
  go_wp2_with fail
  refine (HB.out _).mono ?_
  rintro e w2 ⟨rfl, hb2⟩
  have hB2 := hB1.trans (hb2.mono hB1.size)
  have hbk2 := (hb2.block _ (Array.getElem?_eq_some_iff.1 hbk1).1).trans hbk1
  have HT2 := Lib.hid (HT1.out.below hb2)
  have q3 := cell_below hb2 q3
  clear hB1 hb2 hbk1 q2 HB HT1
  go_wp2_with fail
  refine (HC.out _).mono ?_
  rintro e w3 ⟨rfl, hb3⟩
  have hB3 := hB2.trans (hb3.mono hB2.size)
  have hbk3 := (hb3.block _ (Array.getElem?_eq_some_iff.1 hbk2).1).trans hbk2
  have HT3 := Lib.hid (HT2.out.below hb3)
  have hw3 : w.heap.size < w3.heap.size := (Array.getElem?_eq_some_iff.1 hbk3).1
  have q1 := cell_below hB3 HQ.out.1
  have q2 := cell_below hB3 HQ.out.2.1
  have q3 := cell_below hB3 HQ.out.2.2.1
  clear hB2 hb3 hbk2 HC HT2
  go_upto_region 3 with fail
  have haz : Below w3.heap.size w3 (w3.alloc (.cells #[.string ⟨#[]⟩, .string ⟨#[]⟩, .string ⟨#[]⟩, .int .i64 0, .int .i64 0] 40)) := (Below.refl _ _).alloc (Nat.le_refl _) _
  have p1 := cell_below haz q1
  have p2 := cell_below haz q2
  have p3 := cell_below haz q3
  go_region
  clear p1 p2 p3 q1 q2 q3 haz
  have ha4 : Below w3.heap.size w3 (w3.alloc (.cells #[.string (bs a), .string (bs b), .string (bs c), .int .i64 0, .int .i64 (-1)] 40)).drew := ((Below.refl _ _).alloc (Nat.le_refl _) _).drew
  have hbx4 : (w3.alloc (.cells #[.string (bs a), .string (bs b), .string (bs c), .int .i64 0, .int .i64 (-1)] 40)).drew.heap[w3.heap.size]? = some (.cells #[.string (bs a), .string (bs b), .string (bs c), .int .i64 0, .int .i64 (-1)] 40 (0, 0)) := heap_alloc_new w3 _
  have hbk4 := (ha4.block _ (Array.getElem?_eq_some_iff.1 hbk3).1).trans hbk3
  have hB4 := hB3.trans (ha4.mono hB3.size)
  have hqw : w.heap.size ≤ w3.heap.size := hB3.size
  have hne : w.heap.size ≠ w3.heap.size := by omega
  have q4 := cell_below hB4 HQ.out.2.2.2.1
  have q5 := cell_below hB4 HQ.out.2.2.2.2
  have HT4 := Lib.hid (HT3.out.below ha4)
  have Q5 := Lib.hid HQ.out.2.2.2.2
  clear HT3 ha4 hbk3 hB3 hw3 HQ
  generalize (w3.alloc (.cells #[.string (bs a), .string (bs b), .string (bs c), .int .i64 0, .int .i64 (-1)] 40)).drew = W4 at *
  generalize w3.heap.size = q at *
  go_wp2_with fail
  refine (HND.out W4 HT4.out).mono ?_
  clear HND
  rintro e w5 ⟨n1, rfl, hn1, hb5⟩
  have HN1 := Lib.hid hn1
  have q5 := cell_below hb5 q5
  have hbx5 := (hb5.block _ (Array.getElem?_eq_some_iff.1 hbx4).1).trans hbx4
  have hbk5 := (hb5.block _ (Array.getElem?_eq_some_iff.1 hbk4).1).trans hbk4
  have hB5 := hB4.trans (hb5.mono hB4.size)
  have HT5 := Lib.hid (HT4.out.below hb5)
  clear hn1 hbx4 hbk4 hB4 hb5 HT4 q4
  have z3 := block_cell hbx5 3
  have g3 := block_free hbx5 3
  have hbx6 : (w5.setCell ⟨q, 3, none⟩ (.int .i64 n1)).heap[q]? = some (.cells #[.string (bs a), .string (bs b), .string (bs c), .int .i64 n1, .int .i64 (-1)] 40 (0, 0)) := setCell_block hbx5 3 (.int .i64 n1)
  have hbk6 := setCell_other hbk5 hne 3 (.int .i64 n1)
  have hB6 := hB5.setCell (p := ⟨q, 3, none⟩) hqw (.int .i64 n1)
  have q6 := cell_below hB6 Q5.out
  have HSM2 := HSM.out
  have HOK : Hid (∀ mn mx : Int, I64 mn → I64 mx → (⟨bs a, bs b, bs c, mn, mx⟩ : Bnd).ok) := fun mn mx h1 h2 => ⟨HSM2.1, HSM2.2.1, HSM2.2.2, h1, h2⟩
  clear hbx5 hbk5 hB5 HSM2 HSM
  have HB6 := Lib.hid hB6
  have HT6 := Lib.hid (HTW.out.below hB6)
  have q5' := q5
  cases nd with
  | none =>
    have HN : Hid (readBndL L = none) := HD3.out
    rw [show (none : Option Nat).isSome = false from rfl]
    clear HD3 HI1 HI2 HNE HN1
    by_cases he : e5 = anyW
    · have b1 : (bs e5).toList = [97, 110, 121] := by rw [HQE.out]; exact he
      have b2 : ((bs e5).toList == [97, 110, 121]) = true := by rw [b1]; rfl
      clear HQE he
      go_upto_region 6 with fail
      clear z3 g3 q5 q5'
      generalize w5.setCell ⟨q, 3, none⟩ (.int .i64 n1) = W6 at *
      -- what was read is answered: the world's result's box hbk6, the bond's box hbx6, above w hB6; the numbers n1, (-1); is it one: false; the end: BndR.bad HN.out rfl k1
      have HZ5 := Lib.hid (res5 (.string (bs a)) (.string (bs b)) (.string (bs c)) (.int .i64 n1) (.int .i64 (-1)) hB6 hbk6)
      have z0 := block_cell hbx6 0
      have z1 := block_cell hbx6 1
      have z2 := block_cell hbx6 2
      have z3 := block_cell hbx6 3
      have z4 := block_cell hbx6 4
      -- the cells of the two boxes: hbk6: the result's, $2: the bond's
      have r0 := block_cell hbk6 0
      have r1 := block_cell hbk6 1
      have r2 := block_cell hbk6 2
      have r3 := block_cell hbk6 3
      have r4 := block_cell hbk6 4
      have f0 := block_free hbk6 0
      have f1 := block_free hbk6 1
      have f2 := block_free hbk6 2
      have f3 := block_free hbk6 3
      have f4 := block_free hbk6 4
      go_wp2_with fail
      obtain ⟨k1, k2⟩ := HZ5.out
      have p0 := block_cell k2 0
      have p1 := block_cell k2 1
      have p2 := block_cell k2 2
      have p3 := block_cell k2 3
      have p4 := block_cell k2 4
      exact bodyPost_ret (v := .tuple #[.agg #[.string (bs a), .string (bs b), .string (bs c), .int .i64 n1, .int .i64 (-1)], .bool false]) (by simp [results, Tryz.results37, go_sem, p0, p1, p2, p3, p4]) rfl (BndR.bad HN.out rfl k1)
    · have b1 : ¬ (bs e5).toList = [97, 110, 121] := by rw [HQE.out]; exact he
      have b2 : ((bs e5).toList == [97, 110, 121]) = false := beq_eq_false_iff_ne.2 b1
      clear HQE he
      go_upto_region 6 with fail
      clear z3 g3 q5 q5'
      generalize w5.setCell ⟨q, 3, none⟩ (.int .i64 n1) = W6 at *
      -- what was read is answered: the world's result's box hbk6, the bond's box hbx6, above w hB6; the numbers n1, (-1); is it one: false; the end: BndR.bad HN.out rfl k1
      have HZ5 := Lib.hid (res5 (.string (bs a)) (.string (bs b)) (.string (bs c)) (.int .i64 n1) (.int .i64 (-1)) hB6 hbk6)
      have z0 := block_cell hbx6 0
      have z1 := block_cell hbx6 1
      have z2 := block_cell hbx6 2
      have z3 := block_cell hbx6 3
      have z4 := block_cell hbx6 4
      -- the cells of the two boxes: hbk6: the result's, $2: the bond's
      have r0 := block_cell hbk6 0
      have r1 := block_cell hbk6 1
      have r2 := block_cell hbk6 2
      have r3 := block_cell hbk6 3
      have r4 := block_cell hbk6 4
      have f0 := block_free hbk6 0
      have f1 := block_free hbk6 1
      have f2 := block_free hbk6 2
      have f3 := block_free hbk6 3
      have f4 := block_free hbk6 4
      go_wp2_with fail
      obtain ⟨k1, k2⟩ := HZ5.out
      have p0 := block_cell k2 0
      have p1 := block_cell k2 1
      have p2 := block_cell k2 2
      have p3 := block_cell k2 3
      have p4 := block_cell k2 4
      exact bodyPost_ret (v := .tuple #[.agg #[.string (bs a), .string (bs b), .string (bs c), .int .i64 n1, .int .i64 (-1)], .bool false]) (by simp [results, Tryz.results37, go_sem, p0, p1, p2, p3, p4]) rfl (BndR.bad HN.out rfl k1)
  | some mn =>
    obtain rfl := HN1.out mn rfl
    have HI := Lib.hid (HI1.out mn rfl)
    have HD4 : Hid (bndOf a b c e5 (some mn) ne = if e5 = anyW then some ⟨bs a, bs b, bs c, mn, -1⟩ else match ne with | none => none | some mx => some ⟨bs a, bs b, bs c, mn, mx⟩) := rfl
    rw [show (some mn : Option Nat).isSome = true from rfl]
    clear HI1 HN1
    by_cases he : e5 = anyW
    · have b1 : (bs e5).toList = [97, 110, 121] := by rw [HQE.out]; exact he
      have b2 : ((bs e5).toList == [97, 110, 121]) = true := by rw [b1]; rfl
      have HN : Hid (readBndL L = some ⟨bs a, bs b, bs c, mn, -1⟩) := by unfold Hid; rw [HD3.out, HD4.out, if_pos he]
      clear HQE he HD3 HD4 HNE HI2
      go_upto_region 6 with fail
      clear z3 g3 q5 q5'
      generalize w5.setCell ⟨q, 3, none⟩ (.int .i64 (mn : Int)) = W6 at *
      -- what was read is answered: the world's result's box hbk6, the bond's box hbx6, above w hB6; the numbers (mn : Int), (-1); is it one: true; the end: ⟨_, _, _, _, _, by rw [HN.out]; rfl, (fun d hd => by rw [HN.out] at hd; injection hd with hd; subst hd; exact ⟨rfl, rfl, rfl, rfl, rfl, HOK.out _ _ HI.out (by unfold I64; omega)⟩), k1⟩
      have HZ5 := Lib.hid (res5 (.string (bs a)) (.string (bs b)) (.string (bs c)) (.int .i64 (mn : Int)) (.int .i64 (-1)) hB6 hbk6)
      have z0 := block_cell hbx6 0
      have z1 := block_cell hbx6 1
      have z2 := block_cell hbx6 2
      have z3 := block_cell hbx6 3
      have z4 := block_cell hbx6 4
      -- the cells of the two boxes: hbk6: the result's, $2: the bond's
      have r0 := block_cell hbk6 0
      have r1 := block_cell hbk6 1
      have r2 := block_cell hbk6 2
      have r3 := block_cell hbk6 3
      have r4 := block_cell hbk6 4
      have f0 := block_free hbk6 0
      have f1 := block_free hbk6 1
      have f2 := block_free hbk6 2
      have f3 := block_free hbk6 3
      have f4 := block_free hbk6 4
      go_wp2_with fail
      obtain ⟨k1, k2⟩ := HZ5.out
      have p0 := block_cell k2 0
      have p1 := block_cell k2 1
      have p2 := block_cell k2 2
      have p3 := block_cell k2 3
      have p4 := block_cell k2 4
      exact bodyPost_ret (v := .tuple #[.agg #[.string (bs a), .string (bs b), .string (bs c), .int .i64 (mn : Int), .int .i64 (-1)], .bool true]) (by simp [results, Tryz.results37, go_sem, p0, p1, p2, p3, p4]) rfl (⟨_, _, _, _, _, by rw [HN.out]; rfl, (fun d hd => by rw [HN.out] at hd; injection hd with hd; subst hd; exact ⟨rfl, rfl, rfl, rfl, rfl, HOK.out _ _ HI.out (by unfold I64; omega)⟩), k1⟩)
    · have b1 : ¬ (bs e5).toList = [97, 110, 121] := by rw [HQE.out]; exact he
      have b2 : ((bs e5).toList == [97, 110, 121]) = false := beq_eq_false_iff_ne.2 b1
      have HN0 : Hid (readBndL L = match ne with | none => none | some mx => some ⟨bs a, bs b, bs c, mn, mx⟩) := by unfold Hid; rw [HD3.out, HD4.out, if_neg he]
      clear HQE he HD3 HD4
      go_upto_region 6 with fail
      clear z3 g3 q5 q5'
      generalize w5.setCell ⟨q, 3, none⟩ (.int .i64 (mn : Int)) = W6 at *
      go_wp2_with fail
      refine (HNE.out W6 HT6.out).mono ?_
      clear HNE
      rintro e w7 ⟨n2, rfl, hn2, hb7⟩
      have HN2 := Lib.hid hn2
      have hbx7 := (hb7.block _ (Array.getElem?_eq_some_iff.1 hbx6).1).trans hbx6
      have hbk7 := (hb7.block _ (Array.getElem?_eq_some_iff.1 hbk6).1).trans hbk6
      have hB7 := hB6.trans (hb7.mono hB6.size)
      clear hn2 hbx6 hbk6 hB6 hb7 HT6 q6 HB6
      have z4 := block_cell hbx7 4
      have g4 := block_free hbx7 4
      have hbx8 : (w7.setCell ⟨q, 4, none⟩ (.int .i64 n2)).heap[q]? = some (.cells #[.string (bs a), .string (bs b), .string (bs c), .int .i64 (mn : Int), .int .i64 n2] 40 (0, 0)) := setCell_block hbx7 4 (.int .i64 n2)
      have hbk8 := setCell_other hbk7 hne 4 (.int .i64 n2)
      have hB8 := hB7.setCell (p := ⟨q, 4, none⟩) hqw (.int .i64 n2)
      clear hbx7 hbk7 hB7
      go_upto_region 9 with fail
      clear z4 g4
      generalize w7.setCell ⟨q, 4, none⟩ (.int .i64 n2) = W8 at *
      cases ne with
      | none =>
        have HN : Hid (readBndL L = none) := HN0.out
        rw [show (none : Option Nat).isSome = false from rfl]
        clear HN0 HN2 HI2
        -- what was read is answered: the world's result's box hbk8, the bond's box hbx8, above w hB8; the numbers (mn : Int), n2; is it one: false; the end: BndR.bad HN.out rfl k1
        have HZ5 := Lib.hid (res5 (.string (bs a)) (.string (bs b)) (.string (bs c)) (.int .i64 (mn : Int)) (.int .i64 n2) hB8 hbk8)
        have z0 := block_cell hbx8 0
        have z1 := block_cell hbx8 1
        have z2 := block_cell hbx8 2
        have z3 := block_cell hbx8 3
        have z4 := block_cell hbx8 4
        -- the cells of the two boxes: hbk8: the result's, $2: the bond's
        have r0 := block_cell hbk8 0
        have r1 := block_cell hbk8 1
        have r2 := block_cell hbk8 2
        have r3 := block_cell hbk8 3
        have r4 := block_cell hbk8 4
        have f0 := block_free hbk8 0
        have f1 := block_free hbk8 1
        have f2 := block_free hbk8 2
        have f3 := block_free hbk8 3
        have f4 := block_free hbk8 4
        go_wp2_with fail
        obtain ⟨k1, k2⟩ := HZ5.out
        have p0 := block_cell k2 0
        have p1 := block_cell k2 1
        have p2 := block_cell k2 2
        have p3 := block_cell k2 3
        have p4 := block_cell k2 4
        exact bodyPost_ret (v := .tuple #[.agg #[.string (bs a), .string (bs b), .string (bs c), .int .i64 (mn : Int), .int .i64 n2], .bool false]) (by simp [results, Tryz.results37, go_sem, p0, p1, p2, p3, p4]) rfl (BndR.bad HN.out rfl k1)
      | some mx =>
        have HN : Hid (readBndL L = some ⟨bs a, bs b, bs c, mn, mx⟩) := HN0.out
        obtain rfl := HN2.out mx rfl
        have HJ := Lib.hid (HI2.out mx rfl)
        rw [show (some mx : Option Nat).isSome = true from rfl]
        clear HN0 HN2 HI2
        -- what was read is answered: the world's result's box hbk8, the bond's box hbx8, above w hB8; the numbers (mn : Int), (mx : Int); is it one: true; the end: ⟨_, _, _, _, _, by rw [HN.out]; rfl, (fun d hd => by rw [HN.out] at hd; injection hd with hd; subst hd; exact ⟨rfl, rfl, rfl, rfl, rfl, HOK.out _ _ HI.out HJ.out⟩), k1⟩
        have HZ5 := Lib.hid (res5 (.string (bs a)) (.string (bs b)) (.string (bs c)) (.int .i64 (mn : Int)) (.int .i64 (mx : Int)) hB8 hbk8)
        have z0 := block_cell hbx8 0
        have z1 := block_cell hbx8 1
        have z2 := block_cell hbx8 2
        have z3 := block_cell hbx8 3
        have z4 := block_cell hbx8 4
        -- the cells of the two boxes: hbk8: the result's, $2: the bond's
        have r0 := block_cell hbk8 0
        have r1 := block_cell hbk8 1
        have r2 := block_cell hbk8 2
        have r3 := block_cell hbk8 3
        have r4 := block_cell hbk8 4
        have f0 := block_free hbk8 0
        have f1 := block_free hbk8 1
        have f2 := block_free hbk8 2
        have f3 := block_free hbk8 3
        have f4 := block_free hbk8 4
        go_wp2_with fail
        obtain ⟨k1, k2⟩ := HZ5.out
        have p0 := block_cell k2 0
        have p1 := block_cell k2 1
        have p2 := block_cell k2 2
        have p3 := block_cell k2 3
        have p4 := block_cell k2 4
        exact bodyPost_ret (v := .tuple #[.agg #[.string (bs a), .string (bs b), .string (bs c), .int .i64 (mn : Int), .int .i64 (mx : Int)], .bool true]) (by simp [results, Tryz.results37, go_sem, p0, p1, p2, p3, p4]) rfl (⟨_, _, _, _, _, by rw [HN.out]; rfl, (fun d hd => by rw [HN.out] at hd; injection hd with hd; subst hd; exact ⟨rfl, rfl, rfl, rfl, rfl, HOK.out _ _ HI.out HJ.out⟩), k1⟩)
end Go.Proofs.YtfeccicogcnhcaaGreatDoor
