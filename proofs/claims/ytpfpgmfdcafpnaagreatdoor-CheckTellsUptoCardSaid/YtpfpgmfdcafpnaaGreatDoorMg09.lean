/- Parts: KinJ, KinK, KinL, SamA, RefA, Same, RefB, RefC. -/
import Derived.Test.YtpfpgmfdcafpnaaGreatDoorMg08
import Derived.Test.YtpfpgmfdcafpnaaGreatDoorMg07
import Derived.Test.YtpfpgmfdcafpnaaGreatDoorMg03
/- Contracts: kind.Check, kind.ready, kind.Kin, kind.IsKin, kind.Is, kind.Fields, kind.Under. -/
namespace Go.Proofs.YtpfpgmfdcafpnaaGreatDoor
open Go Go.RowKit

theorem kindsE_step {l : List Knd} {j : Nat} {k : Knd} (hk : l[j]? = some k) {E : ByteArray × Int} (h : E = kindsE (l.take j) (l.drop j)) :
    E = if oneE (l.take j) k = 0 then kindsE (l.take (j + 1)) (l.drop (j + 1)) else (k.name, oneE (l.take j) k) := by
  rw [h, drop_cons hk, kindsE, take_step hk]
def CheckR (l : List Knd) (w : World) (e : Ending) (w' : World) : Prop := e = .returned (.tuple #[.string (checkE l).1, errV (checkE l).2]) ∧ Below w.heap.size w w'
theorem oneE_ofl {l : List Knd} {k : Knd} (h : oneE l k = 0) : k.ofs.length ≤ 4 ∧ k.fields.length ≤ 8 := ⟨(oneE_zero h).ofl, (oneE_zero h).fll⟩

set_option maxRecDepth 100000 in
set_option maxHeartbeats 4000000 in
theorem kcheck_any (l : List Knd) (v : Value) (w : World) (hv : Sl kndL w v l) : Calls Tryz.prog 74 #[v] w (CheckR l w) := by
  obtain ⟨A, c, rfl, hlc, hcA⟩ := hv.form
  unfold maxLen at hcA
  have hlm : (l.length : Int) ≤ 9223372036854775807 := by omega
  by_cases h12 : 12 < l.length
  · have HE : Hid (checkE l = (.empty, 4)) := by unfold Hid checkE; rw [if_pos h12]
    have h12' : (12 : Int) < (l.length : Int) := by omega
    clear hv
    go_enter Tryz.func74, Tryz.ntmps74
    go_wp2_with fail
    go_ret2
    exact ⟨by rw [HE.out, errV4]; rfl, Below.refl _ _⟩
  have h12' : (l.length : Int) ≤ 12 := by omega
  have HE0 : Hid (checkE l = kindsE [] l) := by unfold Hid checkE; rw [if_neg h12]
  go_enter Tryz.func74, Tryz.ntmps74
  go_wp2_with fail
  go_loopw [13] (fun i wr => ∃ j : Nat, j ≤ l.length ∧ i = .int .i64 j ∧ Below w.heap.size w wr ∧ Hid (kindsE [] l = kindsE (l.take j) (l.drop j)) ∧ Hid (∀ x ∈ l.take j, x.ofs.length ≤ 4 ∧ x.fields.length ≤ 8)) (fun i _ => l.length - (intOf i).toNat)
  case atStart => exact ⟨0, Nat.zero_le _, rfl, Below.refl _ _, rfl, fun x hx => by simp at hx⟩
  case round =>
    obtain ⟨j, hj, rfl, hbr, HR, HS⟩ := hrel
    by_cases hlt : j < l.length
    · obtain ⟨k, hk⟩ : ∃ k, l[j]? = some k := ⟨_, List.getElem?_eq_getElem hlt⟩
      obtain ⟨b, o, rfl, u, x, hnm, hso, hsf, c0, c1, c2⟩ := knd_at (hv.below hbr) hk
      obtain ⟨A1, q1, rfl, _, _⟩ := hso.form
      obtain ⟨A2, q2, rfl, _, _⟩ := hsf.form
      obtain ⟨z0, z1, z2⟩ := cell_box3 wr (.string k.name) (.slice A1 k.ofs.length q1) (.slice A2 k.fields.length q2) 80
      have hbb : Below wr.heap.size wr (wr.alloc (.cells #[.string k.name, .slice A1 k.ofs.length q1, .slice A2 k.fields.length q2] 80)) := (Below.refl _ _).alloc (Nat.le_refl _) _
      have hlt' : (j : Int) < (l.length : Int) := by omega
      have hjc : (j : Int) ≤ (c : Int) := by omega
      have hlk : (l.take j).length ≤ 12 := by simp; omega
      have HV : Hid (Sl kndL (wr.alloc (.cells #[.string k.name, .slice A1 k.ofs.length q1, .slice A2 k.fields.length q2] 80)) (.slice (some ⟨b, o, none⟩) j c) (l.take j)) := (Sl.take ((hv.below hbr).below hbb) hj)
      have HSO := Lib.hid (hso.below hbb)
      have HSF := Lib.hid (hsf.below hbb)
      have HK := Lib.hid (kindsE_step hk HR.out)
      have HT := Lib.hid (take_step hk)
      clear hk HR hso hsf
      go_wp2_with fail
      refine wp_mid_k 4 _ rfl rfl (by kernel_rfl) (by kernel_rfl) ?_
      simp only [List.take_succ_cons, List.take_zero, List.drop_succ_cons, List.drop_zero]
      repeat (go_big_quiet_step (fail))
      refine wpQuiet_nil ?_
      intro _ hw'
      obtain ⟨nq, hw''⟩ := hw'
      subst hw''
      intro K hK
      have hone := one_any (l.take j) k _ _ _ _ (HV.out.below (below_drewN (Below.refl _ _) nq)) (HSO.out.below (below_drewN (Below.refl _ _) nq)) (HSF.out.below (below_drewN (Below.refl _ _) nq)) hnm hlk (fun x hx => (HS.out x hx).1) (fun x hx => (HS.out x hx).2)
      have hbN : Below w.heap.size w ((wr.alloc (.cells #[.string k.name, .slice A1 k.ofs.length q1, .slice A2 k.fields.length q2] 80)).drewN nq) := below_drewN (hbr.alloc hbr.size _) nq
      have y0 : ((wr.alloc (.cells #[.string k.name, .slice A1 k.ofs.length q1, .slice A2 k.fields.length q2] 80)).drewN nq).cell? ⟨wr.heap.size, 0, none⟩ = some (.string k.name) := z0
      go_wp2_with fail
      refine hone.mono ?_
      clear hone
      rintro e w3 ⟨rfl, hb3⟩
      have hB3 := hbN.trans (hb3.mono hbN.size)
      have x0 := cell_below hb3 y0
      clear y0 z0 z1 z2 hb3 hbN
      by_cases he : oneE (l.take j) k = 0
      · have HN : Hid (kindsE [] l = kindsE (l.take (j + 1)) (l.drop (j + 1))) := by unfold Hid; rw [HK.out, if_pos he]
        have HS2 : Hid (∀ x ∈ l.take (j + 1), x.ofs.length ≤ 4 ∧ x.fields.length ≤ 8) := by
          intro x hx
          rw [HT.out] at hx
          rcases List.mem_append.1 hx with h | h
          · exact HS.out x h
          · simp at h; subst h; exact oneE_ofl he
        rw [errV_zero he]
        clear he HK
        refine hK _ _ ?_
        repeat (go_big_quiet_step (fail))
        refine wpQuiet_nil ?_
        intro _ hw'
        obtain ⟨nq2, hw''⟩ := hw'
        subst hw''
        go_wp2_with fail
        go_roundw
        case rel => exact ⟨j + 1, by omega, by go_num, below_drewN hB3 _, HN, HS2⟩
        case measure => simp [intOf]; omega
      · have HE : Hid (checkE l = (k.name, oneE (l.take j) k)) := by unfold Hid; rw [HE0.out, HK.out, if_neg he]
        have HV : Hid (errV (oneE (l.take j) k) = .iface 76 (.int .i64 (oneE (l.take j) k))) := errV_some he
        rw [errV_some he]
        clear he HK
        refine hK _ _ ?_
        repeat (go_big_quiet_step (fail))
        refine wpQuiet_nil ?_
        intro _ hw'
        obtain ⟨nq2, hw''⟩ := hw'
        subst hw''
        go_wp2_with fail
        go_ret2
        exact ⟨by rw [HE.out, HV.out]; rfl, below_drewN hB3 _⟩
    · obtain rfl : j = l.length := by omega
      have HE : Hid (checkE l = (.empty, 0)) := by unfold Hid; rw [HE0.out, HR.out, List.drop_length]; rfl
      clear hv
      go_wp2_with fail
      go_ret2
      exact ⟨by rw [HE.out, errV0]; rfl, hbr⟩
end Go.Proofs.YtpfpgmfdcafpnaaGreatDoor

/- Contracts: kind.ready, kind.Kin, kind.IsKin, kind.Is, kind.Fields. -/
namespace Go.Proofs.YtpfpgmfdcafpnaaGreatDoor
open Go Go.RowKit

/-- A list and an error. -/
def RetL {D : Type} (L : Lay D) (l : List D) (err : Int) (w : World) (e : Ending) (w' : World) : Prop := ∃ v, e = .returned (.tuple #[v, errV err]) ∧ Sl L w' v l ∧ Below w.heap.size w w'

def strV (_ : World) (d : ByteArray) (u : Value) : Prop := u = .string d ∧ Sm d
def readyE (l : List Knd) (names : List ByteArray) : Int := if (checkE l).2 = 0 then (if names.any (fun s => decide (kFind l s < 0)) then 5 else 0) else (checkE l).2
theorem readyE_zero {l : List Knd} {names : List ByteArray} (h : readyE l names = 0) : Right l ∧ ∀ s ∈ names, 0 ≤ kFind l s := by
  unfold readyE at h
  split at h
  · rename_i h0
    split at h
    · omega
    · rename_i h1
      refine ⟨checkE_zero h0, fun s hs => ?_⟩
      rcases Int.lt_or_le (kFind l s) 0 with h2 | h2
      · exact absurd (List.any_eq_true.2 ⟨s, hs, decide_eq_true h2⟩) h1
      · exact h2
  · rename_i h0; exact absurd h h0
def isKinB (l : List Knd) (a b : ByteArray) : Bool := (kinL l a).any fun y => decide (b = y)
theorem isKin_any (l : List Knd) (a b : ByteArray) (v : Value) (w : World) (hv : Sl kndL w v l) (ha : Sm a) (hll : l.length ≤ 64) (hofs : ∀ k ∈ l, k.ofs.length ≤ 64) :
    Calls Tryz.prog 28 #[v, .string a, .string b] w fun e w' => e = .returned (.bool (isKinB l a b)) ∧ Below w.heap.size w w' := by
  have h1 := kinOf_any l a v w hv ha hll hofs
  obtain ⟨A, c, rfl, _, _⟩ := hv.form
  clear hv hofs
  go_enter Tryz.func28, Tryz.ntmps28
  go_wp2_with fail
  refine h1.mono ?_
  clear h1
  rintro e w1 ⟨u, rfl, hu, hb1⟩
  have h2 := containsStr_any (kinL l a) b u w1 hu
  obtain ⟨A1, c1, rfl, _, _⟩ := hu.form
  clear hu
  go_wp2_with fail
  refine h2.mono ?_
  clear h2
  rintro e w2 ⟨rfl, rfl⟩
  have HB : Hid (((kinL l a).any fun y => decide (b = y)) = isKinB l a b) := rfl
  generalize ((kinL l a).any fun y => decide (b = y)) = q at *
  go_wp2_with fail
  go_ret
  exact ⟨ret_bool HB.out, hb1⟩

def kinR (l : List Knd) (name : ByteArray) : List ByteArray := if readyE l [name] = 0 then kinL l name else []
def fieldsR (l : List Knd) (name : ByteArray) : List Fld := if readyE l [name] = 0 then (fieldsOf l name).getD [] else []
def isR (l : List Knd) (a b : ByteArray) : Bool := if readyE l [a, b] = 0 then isKinB l a b else false
end Go.Proofs.YtpfpgmfdcafpnaaGreatDoor

/- Contract: kind.Under: all that come of a kind. -/
namespace Go.Proofs.YtpfpgmfdcafpnaaGreatDoor
open Go Go.RowKit

def underL (l : List Knd) (name : ByteArray) : List ByteArray := (l.filter fun k => isKinB l k.name name).map (·.name)
def underR (l : List Knd) (name : ByteArray) : List ByteArray := if readyE l [name] = 0 then underL l name else []
theorem under_step {l : List Knd} {name : ByteArray} {k : Nat} {d : Knd} (hd : l[k]? = some d) {r u : List ByteArray} (h : u = r ++ ((l.drop k).filter fun k => isKinB l k.name name).map (·.name)) :
    u = (r ++ if isKinB l d.name name then [d.name] else []) ++ ((l.drop (k + 1)).filter fun k => isKinB l k.name name).map (·.name) := by
  rw [h, drop_cons hd, List.filter_cons]
  cases isKinB l d.name name <;> simp
end Go.Proofs.YtpfpgmfdcafpnaaGreatDoor

/- Contracts: kinsame.Texts, kinsame.Fields. No condition. -/
namespace Go.Proofs.YtpfpgmfdcafpnaaGreatDoor
open Go Go.RowKit


theorem drewN_step {w wr : World} (h : ∃ m, wr = w.drewN m) (n : Nat) : ∃ m, wr.drewN n = w.drewN m := by
  obtain ⟨m, rfl⟩ := h
  exact ⟨m + n, World.drewN_drewN ..⟩
/-- Two lists, place by place. -/
theorem lists_eq {D : Type} [DecidableEq D] {a b : List D} (hl : a.length = b.length) (h : ∀ j x y, j < a.length → a[j]? = some x → b[j]? = some y → x = y) : a = b := by
  apply List.ext_getElem? 
  intro i
  by_cases hi : i < a.length
  · have h1 := List.getElem?_eq_getElem hi
    have h2 : b[i]? = some b[i] := List.getElem?_eq_getElem (by omega)
    rw [h1, h2, h i _ _ hi h1 h2]
  · rw [List.getElem?_eq_none (by omega), List.getElem?_eq_none (by omega)]
end Go.Proofs.YtpfpgmfdcafpnaaGreatDoor

/- Contracts of the references: kinref1.Name, kinref1.Kind, kinsame.Texts, kinsame.Fields. -/
namespace Go.Proofs.YtpfpgmfdcafpnaaGreatDoor
open Go Go.RowKit

theorem bytes_at (s : ByteArray) (k : Nat) (h : k < s.size) : s.data.toList[k]? = some s[k] := by
  rw [List.getElem?_eq_getElem (by simpa using h)]; rfl
set_option maxHeartbeats 1000000 in
theorem rname_any (s : ByteArray) (w : World) (hs : Sm s) : Calls Tryz.prog 31 #[.string s] w fun e w' => e = .returned (.int .i64 (nameE s)) ∧ w = w' := by
  unfold Sm at hs
  by_cases h0 : s.toList.isEmpty = true
  · have HE : Hid (nameE s = 2) := by unfold Hid nameE; rw [if_pos h0]
    have h1 : s.toList = [] := by simpa using h0
    clear h0
    go_enter Tryz.func31, Tryz.ntmps31
    go_wp2_with fail
    go_ret
    exact ⟨by rw [HE.out]; rfl, rfl⟩
  have h1 : s.toList.isEmpty = false := by simpa using h0
  have h2 : ¬ s.toList = [] := by intro e; rw [e] at h1; simp at h1
  by_cases h8 : 8 < s.size
  · have HE : Hid (nameE s = 2) := by unfold Hid nameE; rw [if_neg h0, if_pos h8]
    have h8' : (8 : Int) < (s.size : Int) := by omega
    clear h0
    go_enter Tryz.func31, Tryz.ntmps31
    go_wp2_with fail
    go_ret
    exact ⟨by rw [HE.out]; rfl, rfl⟩
  have h8' : (s.size : Int) ≤ 8 := by omega
  have HE0 : Hid (nameE s = if s.data.toList.any nameC then 2 else 0) := by unfold Hid nameE; rw [if_neg h0, if_neg h8]
  clear h0
  go_enter Tryz.func31, Tryz.ntmps31
  go_wp2_with fail
  go_loop [3] (fun i => ∃ k : Nat, k ≤ s.size ∧ i = .int .i64 k ∧ Hid (∀ j x, j < k → s.data.toList[j]? = some x → nameC x = false)) (fun i => s.size - (intOf i).toNat)
  case atStart => exact ⟨0, Nat.zero_le _, rfl, fun j x hj => absurd hj (Nat.not_lt_zero _)⟩
  case round =>
    obtain ⟨k, hk, rfl, HA⟩ := hrel
    by_cases hlt : k < s.size
    · have hlt' : (k : Int) < (s.size : Int) := by omega
      have HB := Lib.hid (bytes_at s k hlt)
      by_cases hlo : (s[k].toNat : Int) < 97
      · have HE : Hid (nameE s = 2) := by
          unfold Hid; rw [HE0.out, if_pos]
          exact List.any_eq_true.2 ⟨_, List.mem_of_getElem? HB.out, by unfold nameC; rw [decide_eq_true hlo]; rfl⟩
        clear HE0
        go_wp2_with fail
        go_ret
        exact ⟨by rw [HE.out]; rfl, rfl⟩
      · have hlo' : (97 : Int) ≤ (s[k].toNat : Int) := by omega
        by_cases hhi : (122 : Int) < (s[k].toNat : Int)
        · have HE : Hid (nameE s = 2) := by
            unfold Hid; rw [HE0.out, if_pos]
            exact List.any_eq_true.2 ⟨_, List.mem_of_getElem? HB.out, by unfold nameC; rw [decide_eq_true hhi]; simp⟩
          clear HE0
          go_wp2_with fail
          go_ret
          exact ⟨by rw [HE.out]; rfl, rfl⟩
        · have hhi' : (s[k].toNat : Int) ≤ 122 := by omega
          have HS : Hid (∀ j x, j < k + 1 → s.data.toList[j]? = some x → nameC x = false) := miss_step HA.out HB.out (by unfold nameC; rw [decide_eq_false hlo, decide_eq_false hhi]; rfl)
          clear hlo hhi HE0
          go_wp2_with fail
          go_round
          case rel => exact ⟨k + 1, by omega, by go_num, HS⟩
          case measure => simp [intOf]; omega
    · obtain rfl : k = s.size := by omega
      have HE : Hid (nameE s = 0) := by
        unfold Hid; rw [HE0.out, if_neg]
        intro h
        obtain ⟨x, hx, hc⟩ := List.any_eq_true.1 h
        obtain ⟨j, hj⟩ := List.mem_iff_getElem?.1 hx
        have := HA.out j x (by have := (List.getElem?_eq_some_iff.1 hj).1; simpa using this) hj
        rw [this] at hc; cases hc
      clear HE0
      go_wp2_with fail
      go_ret
      exact ⟨by rw [HE.out]; rfl, rfl⟩

set_option maxHeartbeats 1000000 in
theorem rkind_any (l : List Knd) (name : ByteArray) (v : Value) (w : World) (hv : Sl kndL w v l) : Calls Tryz.prog 10 #[v, .string name] w fun e w' => e = .returned (.int .i64 (kFind l name)) ∧ w = w' := by
  obtain ⟨A, c, rfl, hlc, hcm⟩ := hv.form
  unfold maxLen at hcm
  go_enter Tryz.func10, Tryz.ntmps10
  go_wp2_with fail
  go_loop [5] (fun i => ∃ k : Nat, k ≤ l.length ∧ i = .int .i64 k ∧ Hid (∀ j x, j < k → l[j]? = some x → decide (x.name = name) = false)) (fun i => l.length - (intOf i).toNat)
  case atStart => exact ⟨0, Nat.zero_le _, rfl, fun j x hj => absurd hj (Nat.not_lt_zero _)⟩
  case round =>
    obtain ⟨k, hk, rfl, HA⟩ := hrel
    by_cases hlt : k < l.length
    · obtain ⟨d, hd⟩ : ∃ d, l[k]? = some d := ⟨_, List.getElem?_eq_getElem hlt⟩
      obtain ⟨b, o, rfl, u, x, _, _, _, c0, _, _⟩ := knd_at hv hd
      have HD : Hid (l[k]? = some d) := hd
      clear hd hv
      by_cases hq0 : d.name = name
      · have hq : decide (d.name = name) = true := decide_eq_true hq0
        have HE : Hid (kFind l name = k) := by unfold Hid kFind; exact idxI_hit (p := fun k : Knd => decide (k.name = name)) HA.out HD.out hq
        clear hq
        subst hq0
        go_wp2_with fail
        go_ret
        exact ⟨by rw [HE.out]; rfl, rfl⟩
      · have hq : decide (d.name = name) = false := decide_eq_false hq0
        have hqb : (d.name.toList == name.toList) = false := by rw [bytes_beq]; exact hq
        have HS : Hid (∀ j y, j < k + 1 → l[j]? = some y → decide (y.name = name) = false) := miss_step (p := fun k : Knd => decide (k.name = name)) HA.out HD.out hq
        go_wp2_with fail
        go_round
        case rel => exact ⟨k + 1, by omega, by go_num, HS⟩
        case measure => simp [intOf]; omega
    · have hkl : k = l.length := by omega
      subst hkl
      have HE : Hid (kFind l name = -1) := by unfold Hid kFind; exact idxI_miss (p := fun k : Knd => decide (k.name = name)) HA.out
      clear hv
      go_wp2_with fail
      go_ret
      exact ⟨by rw [HE.out]; rfl, rfl⟩
end Go.Proofs.YtpfpgmfdcafpnaaGreatDoor

/- Plain: blocks of one element type stay as they are where only blocks of other types are written. No condition. -/
namespace Go.Proofs.YtpfpgmfdcafpnaaGreatDoor
open Go Go.RowKit

/-- All blocks of cells of type T are as they were. -/
def Same (T : TypeId) (w w' : World) : Prop := ∀ (k : Nat) c fr, w.heap[k]? = some (.cells c T fr) → w'.heap[k]? = some (.cells c T fr)
theorem Same.refl (T : TypeId) (w : World) : Same T w w := fun _ _ _ h => h
theorem Same.trans {T : TypeId} {a b c : World} (h : Same T a b) (k : Same T b c) : Same T a c := fun i x fr hx => k i x fr (h i x fr hx)
theorem Same.below {T : TypeId} {w w' : World} (hb : Below w.heap.size w w') : Same T w w' := fun k _ _ h => (hb.block k (Array.getElem?_eq_some_iff.1 h).1).trans h
theorem Same.alloc {T : TypeId} (w : World) (o : Obj) : Same T w (w.alloc o) := .below ((Below.refl _ _).alloc (Nat.le_refl _) _)
theorem Same.drewN {T : TypeId} (w : World) (n : Nat) : Same T w (w.drewN n) := fun _ _ _ h => h
theorem Same.drew {T : TypeId} (w : World) : Same T w w.drew := fun _ _ _ h => h
theorem Same.grown {T e : TypeId} {w w' : World} {B sz n : Nat} {v : Value} {xs : List Value} (ho : Own w B e sz v n xs) (hne : e ≠ T) (hg : w.grownBy w' v.ownBlock) : Same T w w' := fun k c fr h => by
  have hlt := (Array.getElem?_eq_some_iff.1 h).1
  refine (hg.block k hlt fun e' => ?_).trans h
  rcases ho.2 with ⟨rfl, _⟩ | ⟨g, o, cap, cur, rfl, _, hg2, _⟩
  · simp [Value.ownBlock] at e'
  · simp [Value.ownBlock] at e'
    subst e'
    rw [h] at hg2
    injection hg2 with hg2
    injection hg2 with _ h2 _
    exact hne h2.symm
theorem Same.setCell {T e : TypeId} {w : World} {p : Addr} {c : Array Value} {fr : Nat × Nat} (hp : w.heap[p.block]? = some (.cells c e fr)) (hne : e ≠ T) (u : Value) : Same T w (w.setCell p u) := fun k c' fr' h => by
  refine (Below.heap_setCell w p u k (fun e' => ?_)).trans h
  subst e'
  rw [h] at hp
  injection hp with hp
  injection hp with _ h2 _
  exact hne h2.symm
theorem Own.same {w w' : World} {B : Nat} {e : TypeId} {sz : Nat} {v : Value} {n : Nat} {xs : List Value} (h : Own w B e sz v n xs) (hs : Same e w w') : Own w' B e sz v n xs := by
  refine ⟨h.1, ?_⟩
  rcases h.2 with hn | ⟨g, o, cap, cur, rfl, hb, hg, rest⟩
  · exact .inl hn
  · exact .inr ⟨g, o, cap, cur, rfl, hb, hs g cur _ hg, rest⟩

/-- Nodes of which each one's record is the call's own. -/
def OwnNods (w : World) (B : Nat) : List Nod → List Value → Prop
  | [], xs => xs = []
  | d :: l, xs => ∃ u ys, xs = [.int .i64 d.id, .string d.kind, u] ++ ys ∧ I64 d.id ∧ Sm d.kind ∧ (∀ p ∈ d.props, p.ok) ∧ Own w B 87 4 u d.props.length (d.props.flatMap Prp.enc) ∧ OwnNods w B l ys
theorem OwnNods.same {w w' : World} {B : Nat} (hs : Same 87 w w') : ∀ {l : List Nod} {xs : List Value}, OwnNods w B l xs → OwnNods w' B l xs
  | [], _, h => h
  | _ :: _, _, h => by
    obtain ⟨u, ys, rfl, h1, h2, h3, h4, h5⟩ := h
    exact ⟨u, ys, rfl, h1, h2, h3, h4.same hs, h5.same hs⟩
theorem OwnNods.snoc {w : World} {B : Nat} {d : Nod} {u : Value} (h1 : I64 d.id) (h2 : Sm d.kind) (h3 : ∀ p ∈ d.props, p.ok) (h4 : Own w B 87 4 u d.props.length (d.props.flatMap Prp.enc)) :
    ∀ {l : List Nod} {xs : List Value}, OwnNods w B l xs → OwnNods w B (l ++ [d]) (xs ++ [.int .i64 d.id, .string d.kind, u])
  | [], xs, h => by rw [show xs = [] from h]; exact ⟨u, [], by simp, h1, h2, h3, h4, rfl⟩
  | e :: l, xs, h => by
    obtain ⟨v, ys, rfl, k1, k2, k3, k4, k5⟩ := h
    exact ⟨v, ys ++ [.int .i64 d.id, .string d.kind, u], by simp, k1, k2, k3, k4, k5.snoc h1 h2 h3 h4⟩
theorem OwnNods.row {w : World} {B : Nat} : ∀ {l : List Nod} {xs : List Value}, OwnNods w B l xs → Row nodL w l xs
  | [], _, h => h
  | _ :: _, _, h => by
    obtain ⟨u, ys, rfl, h1, h2, h3, h4, h5⟩ := h
    exact ⟨_, ys, rfl, ⟨u, rfl, h1, h2, h4.prps h3⟩, h5.row⟩
theorem Own.nods {w : World} {B B' : Nat} {e : TypeId} {v : Value} {l : List Nod} {xs : List Value} (h : Own w B e 3 v l.length xs) (hn : OwnNods w B' l xs) : Sl nodL w v l := Own.row (L := nodL) h hn.row
theorem own_of_block {w : World} {b B : Nat} {e : TypeId} {sz n : Nat} {cs : List Value} (h : w.heap[b]? = some (.cells cs.toArray e (0, 0))) (hB : B ≤ b) (hl : cs.length = n * sz) (hm : n ≤ maxLen) : Own w B e sz (.slice (some ⟨b, 0, none⟩) n n) n cs :=
  ⟨hl, .inr ⟨b, 0, n, cs.toArray, rfl, hB, h, Nat.le_refl _, hm, by simp [hl], by rw [List.drop_zero, ← hl]; exact List.take_length⟩⟩
theorem Own.ne_block {w : World} {B : Nat} {e e' : TypeId} {sz n k : Nat} {v : Value} {xs : List Value} {c : Array Value} {fr : Nat × Nat} (ho : Own w B e sz v n xs) (h : w.heap[k]? = some (.cells c e' fr)) (hne : e' ≠ e) : some k ≠ v.ownBlock := by
  intro e1
  rcases ho.2 with ⟨rfl, _⟩ | ⟨g, o, cap, cur, rfl, _, hg2, _⟩
  · simp [Value.ownBlock] at e1
  · simp [Value.ownBlock] at e1
    subst e1
    rw [h] at hg2
    injection hg2 with hg2
    injection hg2 with _ h2 _
    exact hne h2
theorem grown_block {w w' : World} {k : Nat} {row : Option Nat} {o : Obj} (hg : w.grownBy w' row) (h : w.heap[k]? = some o) (hne : some k ≠ row) : w'.heap[k]? = some o :=
  (hg.block k (Array.getElem?_eq_some_iff.1 h).1 hne).trans h
theorem block_cell {w : World} {k : Nat} {c : Array Value} {T : TypeId} {fr : Nat × Nat} (h : w.heap[k]? = some (.cells c T fr)) (i : Nat) : w.cell? ⟨k, i, none⟩ = c[i]? := by
  simp [World.cell?, h]
theorem block_free {w : World} {k : Nat} {c : Array Value} {T : TypeId} (h : w.heap[k]? = some (.cells c T (0, 0))) (i : Nat) : w.frozen? ⟨k, i, none⟩ = false := by
  simp [World.frozen?, h]
theorem setCell_block {w : World} {k : Nat} {c : Array Value} {T : TypeId} {fr : Nat × Nat} (h : w.heap[k]? = some (.cells c T fr)) (i : Nat) (u : Value) : (w.setCell ⟨k, i, none⟩ u).heap[k]? = some (.cells (c.setIfInBounds i u) T fr) := by
  simp [World.setCell, Array.getElem?_modify, h]
end Go.Proofs.YtpfpgmfdcafpnaaGreatDoor

/- Contract of the references: kinref1.Kin: a kind's kin, by looking again and again. -/
namespace Go.Proofs.YtpfpgmfdcafpnaaGreatDoor
open Go Go.RowKit

def boolBlk (w : World) (b : Nat) (bs : List Bool) : Prop := w.heap[b]? = some (.cells (bs.map Value.bool).toArray 4 (0, 0))
theorem boolBlk.cell {w : World} {b : Nat} {bs : List Bool} (h : boolBlk w b bs) {i : Nat} {q : Bool} (hi : bs[i]? = some q) : w.cell? ⟨b, i, none⟩ = some (.bool q) := by
  rw [block_cell h]; simp [hi]
theorem boolBlk.set {w : World} {b : Nat} {bs : List Bool} (h : boolBlk w b bs) (i : Nat) : boolBlk (w.setCell ⟨b, i, none⟩ (.bool true)) b (bs.set i true) := by
  have := setCell_block h i (.bool true)
  unfold boolBlk
  rw [this]
  congr 2
  simp [List.map_set]
def cntF (bs : List Bool) : Nat := bs.countP (fun q => !q)
theorem cntF_set : ∀ {bs : List Bool} {i : Nat}, bs[i]? = some false → cntF (bs.set i true) + 1 = cntF bs
  | [], i, h => by simp at h
  | q :: bs, 0, h => by simp at h; subst h; simp [cntF]
  | q :: bs, i + 1, h => by
    have ih := cntF_set (bs := bs) (i := i) (by simpa using h)
    unfold cntF at *
    rw [List.set_cons_succ, List.countP_cons, List.countP_cons]
    omega
def fls (w : World) (b : Nat) : Nat := match w.heap[b]? with | some (.cells c _ _) => c.toList.countP (fun v => match v with | .bool false => true | _ => false) | _ => 0
theorem fls_eq {w : World} {b : Nat} {bs : List Bool} (h : boolBlk w b bs) : fls w b = cntF bs := by
  unfold fls cntF
  rw [h]
  simp only [List.countP_map]
  congr 1
  funext q
  cases q <;> rfl
structure BInv (l : List Knd) (name : ByteArray) (bs : List Bool) : Prop where
  len : bs.length = l.length
  ok : ∀ (i : Nat) k, l[i]? = some k → bs[i]? = some true → kinSet l name k.name = true
  at_ : ∀ (i : Nat), kFind l name = i → bs[i]? = some true
/-- Closed at the i-th kind's first m. -/
def ClosedAt (l : List Knd) (bs : List Bool) (i m : Nat) : Prop := ∀ k, l[i]? = some k → bs[i]? = some true → ∀ (t : Nat) o, t < m → k.ofs[t]? = some o → ∀ (j : Nat), kFind l o = j → bs[j]? = some true
theorem BInv.set {l : List Knd} {name : ByteArray} {bs : List Bool} (hw : Wf l) (h : BInv l name bs) {i j : Nat} {k : Knd} {o : ByteArray} (hk : l[i]? = some k) (hi : bs[i]? = some true) (ho : o ∈ k.ofs) (hj : kFind l o = j) : BInv l name (bs.set j true) := by
  refine ⟨by rw [List.length_set]; exact h.len, fun m x hm hb => ?_, fun m hm => ?_⟩
  · by_cases hmj : j = m
    · subst hmj
      obtain ⟨j', y, e1, e2, e3, _⟩ := kFind_pos (l := l) (s := o) (by omega)
      have : j' = j := by omega
      subst this
      rw [hm] at e2; injection e2 with e2; subst e2
      rw [e3]
      exact kinSet_closed hw name k (List.mem_of_getElem? hk) (h.ok i k hk hi) o ho
    · rw [List.getElem?_set_ne hmj] at hb
      exact h.ok m x hm hb
  · have := h.at_ m hm
    by_cases hmj : j = m
    · subst hmj
      rw [List.getElem?_set_self (List.getElem?_eq_some_iff.1 this).1]
    · rw [List.getElem?_set_ne hmj]; exact this
theorem BInv.done {l : List Knd} {name : ByteArray} {bs : List Bool} (hw : Wf l) (h : BInv l name bs) (hn : 0 ≤ kFind l name) (hc : ∀ i, i < l.length → ∀ k, l[i]? = some k → ClosedAt l bs i k.ofs.length) : ∀ (i : Nat) k, l[i]? = some k → bs[i]? = some (kinSet l name k.name) := by
  intro i k hk
  have hil := (List.getElem?_eq_some_iff.1 hk).1
  obtain ⟨q, hq⟩ : ∃ q, bs[i]? = some q := ⟨_, List.getElem?_eq_getElem (by rw [h.len]; exact hil)⟩
  rw [hq]
  cases q with
  | true => rw [h.ok i k hk hq]
  | false =>
    cases hs : kinSet l name k.name with
    | false => rfl
    | true =>
      exfalso
      have hT : ∀ s, kinSet l name s = true → (match kFind l s with | .ofNat j => bs[j]? == some true | _ => true) = true := by
        refine kinFrom_least (T := fun s => match kFind l s with | .ofNat j => bs[j]? == some true | _ => true) ?_ ?_
        · intro x hx hxt o ho
          obtain ⟨m, hm⟩ := List.mem_iff_getElem?.1 hx
          have hxi : kFind l x.name = m := by
            obtain ⟨m', y, e1, e2, e3, e4⟩ := kFind_pos (kFind_mem hx)
            have : m' = m := by
              rcases Nat.lt_trichotomy m' m with h1 | h1 | h1
              · exact absurd e3 ((hw m x hm).1 m' y h1 e2)
              · exact h1
              · exact absurd rfl (e4 m x h1 hm)
            rw [e1, this]
          have hxt2 : (match kFind l x.name with | .ofNat j => bs[j]? == some true | _ => true) = true := hxt
          rw [hxi] at hxt2
          have hbm : bs[m]? = some true := by simpa using hxt2
          obtain ⟨t, ht⟩ := List.mem_iff_getElem?.1 ho
          obtain ⟨j, y, _, hj2, hj3⟩ := (hw m x hm).2 o ho
          obtain ⟨j', y', e1, _, _, _⟩ := kFind_pos (l := l) (s := o) (by have := kFind_mem (List.mem_of_getElem? hj2); rw [hj3] at this; exact this)
          show (match kFind l o with | .ofNat j => bs[j]? == some true | _ => true) = true
          rw [e1]
          have := hc m (List.getElem?_eq_some_iff.1 hm).1 x hm x hm hbm t o (List.getElem?_eq_some_iff.1 ht).1 ht j' e1
          show (bs[j']? == some true) = true
          rw [this]; rfl
        · intro s hs2
          simp at hs2
          subst hs2
          obtain ⟨j, _, e1, _⟩ := kFind_pos hn
          show (match kFind l name with | .ofNat j => bs[j]? == some true | _ => true) = true
          rw [e1]
          show (bs[j]? == some true) = true
          rw [h.at_ j e1]; rfl
      have : (match kFind l k.name with | .ofNat j => bs[j]? == some true | _ => true) = true := hT k.name hs
      have hki : kFind l k.name = i := by
        obtain ⟨m', y, e1, e2, e3, e4⟩ := kFind_pos (kFind_mem (List.mem_of_getElem? hk))
        have : m' = i := by
          rcases Nat.lt_trichotomy m' i with h1 | h1 | h1
          · exact absurd e3 ((hw i k hk).1 m' y h1 e2)
          · exact h1
          · exact absurd rfl (e4 i k h1 hk)
        rw [e1, this]
      rw [hki] at this
      change (bs[i]? == some true) = true at this
      rw [hq] at this
      cases this
theorem made_bools (n : Nat) : (madeCells #[.bool false] n) = ((List.replicate n false).map Value.bool).toArray := by
  apply Array.toList_inj.1
  rw [toList_madeCells_one]; simp
theorem bool_info : (Tryz.prog.info? 4).map (fun i => (i.zero, i.size, i.bytes)) = some (some (.bool false), 1, 1) := by kernel_rfl
end Go.Proofs.YtpfpgmfdcafpnaaGreatDoor

/- Contract of the references: kinref1.Kin, the walk; kinref1.Is. -/
namespace Go.Proofs.YtpfpgmfdcafpnaaGreatDoor
open Go Go.RowKit

def agN : Value → Nat | .bool true => 1 | _ => 0
theorem boolBlk.below {w w' : World} {b B : Nat} {bs : List Bool} (h : boolBlk w b bs) (hb : Below B w w') (hlt : b < B) : boolBlk w' b bs := (hb.block b hlt).trans h
theorem boolBlk.frozen {w : World} {b : Nat} {bs : List Bool} (h : boolBlk w b bs) (i : Nat) : w.frozen? ⟨b, i, none⟩ = false := by unfold boolBlk at h; simp [World.frozen?, h]
/-- A round of the outer loop began with bs0; it stands at the i-th kind's m-th name. -/
structure KRun (l : List Knd) (name : ByteArray) (bs0 bs : List Bool) (q : Bool) (i m : Nat) : Prop where
  inv : BInv l name bs
  same : q = false → bs = bs0 ∧ (∀ t, t < i → ∀ k, l[t]? = some k → ClosedAt l bs t k.ofs.length) ∧ ClosedAt l bs i m
  less : q = true → cntF bs < cntF bs0
theorem KRun.start {l : List Knd} {name : ByteArray} {bs : List Bool} (h : BInv l name bs) : KRun l name bs bs false 0 0 :=
  ⟨h, fun _ => ⟨rfl, fun _ ht => absurd ht (Nat.not_lt_zero _), fun _ _ _ _ _ ht => absurd ht (Nat.not_lt_zero _)⟩, fun e => Bool.noConfusion e⟩
theorem KRun.skip {l : List Knd} {name : ByteArray} {bs0 bs : List Bool} {q : Bool} {i m j : Nat} {k : Knd} {o : ByteArray} (h : KRun l name bs0 bs q i m) (hk : l[i]? = some k) (ho : k.ofs[m]? = some o) (hj : kFind l o = j) (hb : bs[j]? = some true) : KRun l name bs0 bs q i (m + 1) := by
  refine ⟨h.inv, fun e => ⟨(h.same e).1, (h.same e).2.1, fun k' hk' hi t o' ht ho' j' hj' => ?_⟩, h.less⟩
  by_cases htm : t = m
  · subst htm
    rw [hk] at hk'; injection hk' with hk'; subst hk'
    rw [ho] at ho'; injection ho' with ho'; subst ho'
    have : j' = j := by omega
    rw [this]; exact hb
  · exact (h.same e).2.2 k' hk' hi t o' (by omega) ho' j' hj'
theorem KRun.put {l : List Knd} {name : ByteArray} {bs0 bs : List Bool} {q : Bool} {i m j : Nat} {k : Knd} {o : ByteArray} (hw : Wf l) (h : KRun l name bs0 bs q i m) (hk : l[i]? = some k) (hi : bs[i]? = some true) (ho : k.ofs[m]? = some o) (hj : kFind l o = j) (hb : bs[j]? = some false) : KRun l name bs0 (bs.set j true) true i (m + 1) := by
  refine ⟨h.inv.set hw hk hi (List.mem_of_getElem? ho) hj, fun e => Bool.noConfusion e, fun _ => ?_⟩
  have h1 := cntF_set hb
  cases q with
  | false => have := (h.same rfl).1; subst this; omega
  | true => have := h.less rfl; omega
theorem KRun.next {l : List Knd} {name : ByteArray} {bs0 bs : List Bool} {q : Bool} {i m : Nat} {k : Knd} (h : KRun l name bs0 bs q i m) (hk : l[i]? = some k) (hx : m = k.ofs.length ∨ bs[i]? = some false) : KRun l name bs0 bs q (i + 1) 0 := by
  refine ⟨h.inv, fun e => ⟨(h.same e).1, fun t ht k' hk' => ?_, fun _ _ _ _ _ ht => absurd ht (Nat.not_lt_zero _)⟩, h.less⟩
  by_cases hti : t = i
  · subst hti
    rw [hk] at hk'; injection hk' with hk'; subst hk'
    rcases hx with hx | hx
    · rw [← hx]; exact (h.same e).2.2
    · intro k' _ hi; rw [hx] at hi; injection hi with hi; cases hi
  · exact (h.same e).2.1 t (by omega) k' hk'
theorem KRun.meas {l : List Knd} {name : ByteArray} {bs0 bs : List Bool} {q : Bool} {i m : Nat} (h : KRun l name bs0 bs q i m) : 2 * cntF bs + agN (.bool q) < 2 * cntF bs0 + 1 := by
  cases q with
  | false => have := (h.same rfl).1; subst this; simp [agN]
  | true => have := h.less rfl; simp [agN]; omega
theorem BInv.start {l : List Knd} {name : ByteArray} {j : Nat} (hj : kFind l name = j) (hjl : j < l.length) : BInv l name ((List.replicate l.length false).set j true) := by
  refine ⟨by simp, fun i k hk hb => ?_, fun i hi => ?_⟩
  · by_cases hji : j = i
    · subst hji
      obtain ⟨j', y, e1, e2, e3, _⟩ := kFind_pos (l := l) (s := name) (by omega)
      have : j' = j := by omega
      subst this
      rw [hk] at e2; injection e2 with e2; subst e2
      rw [e3]; exact kinSet_self _ _
    · rw [List.getElem?_set_ne hji] at hb
      rw [List.getElem?_replicate] at hb
      split at hb <;> simp at hb
  · have : j = i := by omega
    subst this
    rw [List.getElem?_set_self (by simpa using hjl)]
theorem kin_pick {l : List Knd} {name : ByteArray} {k : Nat} {d : Knd} (hd : l[k]? = some d) {r u : List ByteArray} (h : u = r ++ ((l.drop k).filter fun k => kinSet l name k.name).map (·.name)) :
    u = (r ++ if kinSet l name d.name then [d.name] else []) ++ ((l.drop (k + 1)).filter fun k => kinSet l name k.name).map (·.name) := by
  rw [h, drop_cons hd, List.filter_cons]
  cases kinSet l name d.name <;> simp
set_option maxRecDepth 100000 in
set_option maxHeartbeats 8000000 in
theorem rkin_any (l : List Knd) (name : ByteArray) (v : Value) (w : World) (hv : Sl kndL w v l) (hw : Wf l) (hn : 0 ≤ kFind l name) (hll : l.length ≤ 12) :
    Calls Tryz.prog 39 #[v, .string name] w fun e w' => ∃ u, e = .returned u ∧ Sl strL w' u (kinL l name) ∧ Below w.heap.size w w' := by
  obtain ⟨i0, hi, hz, hz1, hz2⟩ := info_parts bool_info
  obtain ⟨iS, ei, ez, ez1, ez2⟩ := info_parts str_info
  have HV := Lib.hid hv
  have HW := Lib.hid hw
  have HN0 := Lib.hid hn
  obtain ⟨j0, _, hj0, hy0, _, _⟩ := kFind_pos hn
  have hj0l : j0 < l.length := (List.getElem?_eq_some_iff.1 hy0).1
  have hj0l' : (j0 : Int) < (l.length : Int) := by omega
  have HB0 := Lib.hid (BInv.start hj0 hj0l)
  have hk0 : ∀ wx, Below w.heap.size w wx → Calls Tryz.prog 10 #[v, .string name] wx fun e w' => e = .returned (.int .i64 j0) ∧ wx = w' := fun wx hb => by
    have := rkind_any l name v wx (hv.below hb); rwa [hj0] at this
  have HK0 := Lib.hid hk0
  obtain ⟨A, c, rfl, _, _⟩ := hv.form
  have hmk : ∀ u : World, (Instr.makeSlice 117 (.int .i64 (l.length : Int)) (.int .i64 (l.length : Int))).run Tryz.prog u =
      .ok (.slice (some ⟨u.heap.size, 0, none⟩) l.length l.length) (u.alloc (.cells (madeCells #[.bool false] l.length) 4)) := fun u => by
    have h := run_make (P := Tryz.prog) u 117 4 i0 (.bool false) Tryz.underlying117 hi hz .i64 .i64 (l.length : Int) (l.length : Int) (by omega) (Int.le_refl _) (by rw [hz2]; omega) (by omega)
    simpa [hz1, Value.cells] using h
  have hb0 : Below w.heap.size w (w.alloc (.cells (madeCells #[.bool false] l.length) 4)) := (Below.refl _ _).alloc (Nat.le_refl _) _
  have hB0 : boolBlk (w.alloc (.cells (madeCells #[.bool false] l.length) 4)) w.heap.size (List.replicate l.length false) := by
    unfold boolBlk; rw [← made_bools]; exact heap_alloc_new _ _
  have hA1 : (madeCells #[Value.bool false] l.length).setIfInBounds j0 (.bool true) = (((List.replicate l.length false).set j0 true).map Value.bool).toArray := by
    rw [made_bools, List.map_set, List.setIfInBounds_toArray]
  have hB1 : boolBlk (w.alloc (.cells ((madeCells #[Value.bool false] l.length).setIfInBounds j0 (.bool true)) 4)) w.heap.size ((List.replicate l.length false).set j0 true) := by
    unfold boolBlk; rw [hA1]; exact heap_alloc_new _ _
  clear hA1
  have hfr := hB0.frozen j0
  have hb1 : Below w.heap.size w (w.alloc (.cells ((madeCells #[Value.bool false] l.length).setIfInBounds j0 (.bool true)) 4)) := (Below.refl _ _).alloc (Nat.le_refl _) _
  have hc0 : ∃ q, (w.alloc (.cells (madeCells #[.bool false] l.length) 4)).cell? ⟨w.heap.size, j0, none⟩ = some q := ⟨_, hB0.cell (i := j0) (q := false) (by simp [hj0l])⟩
  obtain ⟨q0, hc0⟩ := hc0
  clear hv hw hj0 hy0 hk0 hn
  go_enter Tryz.func39, Tryz.ntmps39
  go_wp2_with fail
  refine (HK0.out _ hb0).mono ?_
  rintro e w1 ⟨rfl, rfl⟩
  go_wp2_with fail
  clear hmk hc0 hfr HK0
  generalize hW1 : w.alloc (.cells ((madeCells #[Value.bool false] l.length).setIfInBounds j0 (.bool true)) 4) = W1 at *
  have hs1 : w.heap.size < W1.heap.size := (Array.getElem?_eq_some_iff.1 hB1).1
  go_loopw [6] (fun ag wr => ∃ (q : Bool) (bs : List Bool), ag = .bool q ∧ Below w.heap.size w wr ∧ boolBlk wr w.heap.size bs ∧ Hid (BInv l name bs) ∧
    Hid (q = false → ∀ t, t < l.length → ∀ k, l[t]? = some k → ClosedAt l bs t k.ofs.length)) (fun ag wr => 2 * fls wr w.heap.size + agN ag)
  case atStart => exact ⟨true, _, rfl, hb1, hB1, HB0, fun e => Bool.noConfusion e⟩
  case round =>
    obtain ⟨q, bs, rfl, hbr, hbk, HBI, HCL⟩ := hrel
    clear hb1 hB1 HB0
    have hBr : w.heap.size < wr.heap.size := (Array.getElem?_eq_some_iff.1 hbk).1
    obtain ⟨wo, rfl⟩ : ∃ wo : World, wo = wr := ⟨_, rfl⟩
    cases q with
    | true =>
      have HST := Lib.hid (KRun.start HBI.out)
      have hfl := fls_eq hbk
      clear HBI HCL
      go_wp2_with fail
      go_loopw [6, 7] (fun ag i wx => ∃ (q : Bool) (k : Nat) (bs3 : List Bool), k ≤ l.length ∧ ag = .bool q ∧ i = .int .i64 k ∧ Below w.heap.size w wx ∧ boolBlk wx w.heap.size bs3 ∧ Hid (KRun l name bs bs3 q k 0)) (fun _ i _ => l.length - (intOf i).toNat)
      case atStart => exact ⟨false, 0, bs, Nat.zero_le _, rfl, rfl, hbr, hbk, HST⟩
      case round =>
        clear hbr hbk HST
        obtain ⟨q, k, bs3, hk, rfl, rfl, hbx, hbk, HR⟩ := hrel
        obtain ⟨w3, rfl⟩ : ∃ w3 : World, w3 = wr := ⟨_, rfl⟩
        by_cases hlt : k < l.length
        · obtain ⟨d, hd⟩ : ∃ d, l[k]? = some d := ⟨_, List.getElem?_eq_getElem hlt⟩
          have hlt' : (k : Int) < (l.length : Int) := by omega
          go_wp2_with fail
          go_loopw [6, 8] (fun ag i wx => ∃ (q : Bool) (m : Nat) (bs4 : List Bool), m ≤ d.ofs.length ∧ ag = .bool q ∧ i = .int .i64 m ∧ Below w.heap.size w wx ∧ boolBlk wx w.heap.size bs4 ∧ Hid (KRun l name bs bs4 q k m)) (fun _ i _ => d.ofs.length - (intOf i).toNat)
          case atStart => exact ⟨q, 0, bs3, Nat.zero_le _, rfl, rfl, hbx, hbk, HR⟩
          case round =>
            clear hbx hbk HR
            obtain ⟨q, m, bs4, hm, rfl, rfl, hbx, hbk, HR⟩ := hrel
            obtain ⟨b, o, rfl, u, x, _, hso, _, _, c1, _⟩ := knd_at (HV.out.below hbx) hd
            obtain ⟨A1, q1, rfl, _, hm1⟩ := hso.form
            unfold maxLen at hm1
            obtain ⟨qi, hqi⟩ : ∃ q, bs4[k]? = some q := ⟨_, List.getElem?_eq_getElem (by rw [HR.out.inv.len]; exact hlt)⟩
            have y0 := hbk.cell hqi
            by_cases hmt : m < d.ofs.length
            · have hmt' : (m : Int) < (d.ofs.length : Int) := by omega
              cases qi with
              | true =>
                obtain ⟨of, hof⟩ : ∃ d2, d.ofs[m]? = some d2 := ⟨_, List.getElem?_eq_getElem hmt⟩
                obtain ⟨b2, o2, rfl, _, x0⟩ := str_at hso hof
                obtain ⟨j, y, _, hj2, hj3⟩ := (HW.out k d hd).2 of (List.mem_of_getElem? hof)
                obtain ⟨j1, z, e1, e2, _, _⟩ := kFind_pos (l := l) (s := of) (by have := kFind_mem (List.mem_of_getElem? hj2); rw [hj3] at this; exact this)
                have hj1l : j1 < l.length := (List.getElem?_eq_some_iff.1 e2).1
                have hj1l' : (j1 : Int) < (l.length : Int) := by omega
                have hkk := rkind_any l of _ wr (HV.out.below hbx)
                rw [e1] at hkk
                obtain ⟨qj, hqj⟩ : ∃ q, bs4[j1]? = some q := ⟨_, List.getElem?_eq_getElem (by rw [HR.out.inv.len]; exact hj1l)⟩
                have y1 := hbk.cell hqj
                have HE := Lib.hid (And.intro hd (And.intro hof e1))
                have HQ := Lib.hid hqi
                clear hj2 hj3 hof e1 e2 hd hqi hso
                go_wp2_with fail
                refine hkk.mono ?_
                rintro e w5 ⟨rfl, rfl⟩
                clear hkk
                cases qj with
                | true =>
                  have HN := Lib.hid (HR.out.skip HE.out.1 HE.out.2.1 HE.out.2.2 hqj)
                  clear hqj
                  go_wp2_with fail
                  go_roundw
                  case rel => exact ⟨q, m + 1, bs4, by omega, rfl, by go_num, hbx, hbk, HN⟩
                  case measure => simp [intOf]; omega
                | false =>
                  have HN := Lib.hid (KRun.put HW.out HR.out HE.out.1 HQ.out HE.out.2.1 HE.out.2.2 hqj)
                  have hfr := hbk.frozen j1
                  have hbk2 := hbk.set j1
                  have hbx2 := hbx.setCell (p := ⟨w.heap.size, j1, none⟩) (Nat.le_refl _) (.bool true)
                  clear hqj
                  go_wp2_with fail
                  go_roundw
                  case rel => exact ⟨true, m + 1, _, by omega, rfl, by go_num, hbx2, hbk2, HN⟩
                  case measure => simp [intOf]; omega
              | false =>
                have HN := Lib.hid (HR.out.next hd (.inr hqi))
                clear hqi
                go_wp2_with fail
                go_roundw
                case rel => exact ⟨q, k + 1, bs4, by omega, rfl, by go_num, hbx, hbk, HN⟩
                case measure => simp [intOf]; omega
            · obtain rfl : m = d.ofs.length := by omega
              have HN := Lib.hid (HR.out.next hd (.inl rfl))
              clear hqi
              go_wp2_with fail
              go_roundw
              case rel => exact ⟨q, k + 1, bs4, by omega, rfl, by go_num, hbx, hbk, HN⟩
              case measure => simp [intOf]; omega
        · obtain rfl : k = l.length := by omega
          have hms := HR.out.meas
          have hff := fls_eq hbk
          have HCL2 : Hid (q = false → ∀ t, t < l.length → ∀ k, l[t]? = some k → ClosedAt l bs3 t k.ofs.length) := fun e t ht k hk => (HR.out.same e).2.1 t ht k hk
          have HBI2 := Lib.hid HR.out.inv
          clear HR
          go_wp2_with fail
          go_roundw
          case rel => exact ⟨q, bs3, rfl, hbx, hbk, HBI2, HCL2⟩
          case measure => rw [hff, hfl]; simpa [agN] using hms
    | false =>
      have HD : Hid (∀ (i : Nat) k, l[i]? = some k → bs[i]? = some (kinSet l name k.name)) := HBI.out.done HW.out HN0.out (HCL.out rfl)
      clear HBI HCL
      go_wp2_with fail
      go_loopw [10, 11] (fun ov i wx => ∃ (k : Nat) (r : List ByteArray), k ≤ l.length ∧ i = .int .i64 k ∧ r.length ≤ k ∧ Below wo.heap.size wo wx ∧ Own wx wo.heap.size 9 1 ov r.length (r.map Value.string) ∧
        Hid (∀ x ∈ r, Sm x) ∧ Hid (kinL l name = r ++ ((l.drop k).filter fun k => kinSet l name k.name).map (·.name))) (fun _ i _ => l.length - (intOf i).toNat)
      case atStart => exact ⟨0, [], Nat.zero_le _, rfl, Nat.le_refl _, Below.refl _ _, Own.nil _ _ _ _, (by intro x hx; simp at hx), by unfold Hid; rw [List.drop_zero]; rfl⟩
      case round =>
        obtain ⟨k, r, hk, rfl, hrk, hbx, hor, HR, HU⟩ := hrel
        have hBx := hbr.trans (hbx.mono hbr.size)
        obtain ⟨Ar, cr, rfl, _, _⟩ := hor.form
        by_cases hlt : k < l.length
        · obtain ⟨d, hd⟩ : ∃ d, l[k]? = some d := ⟨_, List.getElem?_eq_getElem hlt⟩
          obtain ⟨b, o, rfl, u, x, hsm, _, _, c0, _, _⟩ := knd_at (HV.out.below hBx) hd
          have hlt' : (k : Int) < (l.length : Int) := by omega
          have y0 := (hbk.below hbx hBr).cell (HD.out k d hd)
          have HS := Lib.hid (kin_pick hd HU.out)
          clear hd HU
          cases hq : kinSet l name d.name with
          | true =>
            have HN : Hid (kinL l name = (r ++ [d.name]) ++ ((l.drop (k + 1)).filter fun k => kinSet l name k.name).map (·.name)) := by unfold Hid; rw [HS.out, hq]; simp
            have HR2 : Hid (∀ x ∈ r ++ [d.name], Sm x) := by
              intro x hx
              rcases List.mem_append.1 hx with h | h
              · exact HR.out x h
              · simp at h; subst h; exact hsm
            rw [hq] at y0
            clear hq HS
            go_wp2_with (at_builtin; refine wpList_append_q _ rfl (.tmp 71) (.tmp 77) _ rfl wo.heap.size 9 iS (.string .empty) 1 16 Tryz.underlying78 ei ez ez1 ez2 rfl (by decide) (.slice Ar r.length cr) r.length (r.map Value.string) rfl (hor.alloc _) (some ⟨wr.heap.size, 0, none⟩) 1 1 [.string d.name] rfl rfl (fun _ => ⟨_, rfl, by simpa using cell_one_new wr (.string d.name) 9⟩) (by simp [Value.oneCell']) (by unfold maxLen; omega) (by omega) (by have := hbx.size; simp; omega) ?_; intro v7 w7 hown7 hg7 hat7)
            have hb7 : Below wo.heap.size wo w7 := (hbx.alloc hbx.size _).grown hg7 (by have := hbx.size; simp; omega) (fun kk hkk => (hor.lt kk hkk).1)
            have ho7 : Own w7 wo.heap.size 9 1 v7 (r ++ [d.name]).length ((r ++ [d.name]).map Value.string) := by simpa using hown7
            have hl7 : (r ++ [d.name]).length ≤ k + 1 := by simp; omega
            clear hg7 hat7 hown7
            obtain ⟨A7, c7, rfl, _, _⟩ := ho7.form
            go_roundw
            case rel => exact ⟨k + 1, r ++ [d.name], by omega, by go_num, hl7, hb7, ho7, HR2, HN⟩
            case measure => simp [intOf]; omega
          | false =>
            have HN : Hid (kinL l name = r ++ ((l.drop (k + 1)).filter fun k => kinSet l name k.name).map (·.name)) := by unfold Hid; rw [HS.out, hq]; simp
            rw [hq] at y0
            clear hq HS
            go_wp2_with fail
            go_roundw
            case rel => exact ⟨k + 1, r, by omega, by go_num, by omega, hbx, hor, HR, HN⟩
            case measure => simp [intOf]; omega
        · obtain rfl : k = l.length := by omega
          have HQ : Hid (kinL l name = r) := by unfold Hid; rw [HU.out, List.drop_length]; simp
          have hsl := hor.strs HR.out
          go_wp2_with fail
          go_ret
          exact ⟨.slice Ar r.length cr, rfl, by rw [HQ.out]; exact hsl, hBx⟩
end Go.Proofs.YtpfpgmfdcafpnaaGreatDoor
