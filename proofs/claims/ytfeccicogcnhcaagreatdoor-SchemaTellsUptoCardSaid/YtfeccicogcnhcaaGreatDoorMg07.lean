/- Parts: SchA, SchB, RecT, DeltaP, CloN, Numb, GrO, OwnS, OwnT, ChA, ChP, ChB, DelD, DelT, DelO, DelK, ChC, ChD, ChE, ChF, ChG, HeldX, ChH, ChI, ChJ0, ChJ2, ChJ3, ChJ6, ChJ8, ChJ, ChQ, VtS. -/
import Derived.Test.YtfeccicogcnhcaaGreatDoorMg06
import Derived.Test.YtfeccicogcnhcaaGreatDoorMg04
import Derived.Test.YtfeccicogcnhcaaGreatDoorMg01
import Derived.Test.YtfeccicogcnhcaaGreatDoorRows
import Derived.Deep.RegionLaw
import Derived.Deep.RegionHeld3
import Derived.Test.YtfeccicogcnhcaaGreatDoorMg05
import Derived.Test.YtfeccicogcnhcaaGreatDoorMg03
import Derived.OrdersHeld
/- Contracts: schema.find, schema.Find, schema.bond, schema.Check, schema.Right. -/
namespace Go.Proofs.YtfeccicogcnhcaaGreatDoor
open Go Go.RowKit



def bndV (_ : World) (d : Bnd) (u : Value) : Prop := u = .agg #[.string d.name, .string d.src, .string d.dst, .int .i64 d.mn, .int .i64 d.mx]
set_option maxHeartbeats 400000 in
theorem idx_bnds (g : Nat) (caps : Array Value) (eg : ∀ args w, (callFunc g args).run Tryz.prog w = .ok (.enter g args) w) (p : Bnd → Bool) (l : List (Bnd)) (v : Value) (w : World) (hv : Sl bndL w v l)
    (hp : PredB Tryz.prog g caps bndV p w) :
    Calls Tryz.prog 71 #[v, .func (.func g) #[] caps] w fun e w' => e = .returned (.int .i64 (idxI p l)) ∧ Below w.heap.size w w' := by
  obtain ⟨A, c, rfl, hlc, hcm⟩ := hv.form
  unfold maxLen at hcm
  go_enter Tryz.func71, Tryz.ntmps71
  go_wp2_with fail
  go_loopw [8] (fun i wr => ∃ k : Nat, k ≤ l.length ∧ i = .int .i64 k ∧ Below w.heap.size w wr ∧ Hid (∀ j x, j < k → l[j]? = some x → p x = false)) (fun i _ => l.length - (intOf i).toNat)
  case atStart => exact ⟨0, Nat.zero_le _, rfl, Below.refl _ _, fun j x hj => absurd hj (Nat.not_lt_zero _)⟩
  case round =>
    obtain ⟨k, hk, rfl, hb, HA⟩ := hrel
    by_cases hlt : k < l.length
    · obtain ⟨d, hd⟩ : ∃ d, l[k]? = some d := ⟨_, List.getElem?_eq_getElem hlt⟩
      obtain ⟨b, o, rfl, hok, c0, c1, c2, c3, c4⟩ := bnd_at (hv.below hb) hd
      have hcall := hp d (.agg #[.string d.name, .string d.src, .string d.dst, .int .i64 d.mn, .int .i64 d.mx]) wr hb rfl
      have HD : Hid (l[k]? = some d) := hd
      clear hd hp hv
      cases hq : p d with
      | true =>
        rw [hq] at hcall
        have HQ : Hid (p d = true) := hq
        clear hq
        go_wp2_with (go_at_fn g; refine hcall.mono ?_; rintro e w' ⟨rfl, hb2⟩)
        go_ret
        exact ⟨ret_int (idxI_hit HA.out HD.out HQ.out).symm, hb.trans (hb2.mono hb.size)⟩
      | false =>
        rw [hq] at hcall
        have HQ : Hid (p d = false) := hq
        clear hq
        go_wp2_with (go_at_fn g; refine hcall.mono ?_; rintro e w' ⟨rfl, hb2⟩)
        go_roundw
        case rel => exact ⟨k + 1, by omega, by go_num, hb.trans (hb2.mono hb.size), miss_step HA.out HD.out HQ.out⟩
        case measure => simp [intOf]; omega
    · have hkl : k = l.length := by omega
      subst hkl
      clear hp hv
      go_wp2_with fail
      go_ret
      exact ⟨ret_int (idxI_miss HA.out).symm, hb⟩
theorem bFind1_any (d : Bnd) (name : ByteArray) (u : Value) (bk : Nat) (w : World) (hu : bndV w d u) (hc : w.cell? ⟨bk, 0, none⟩ = some (.string name)) :
    Calls Tryz.prog 72 #[u, .pointer (some ⟨bk, 0, none⟩)] w fun e w' => e = .returned (.bool (decide (d.name = name))) ∧ Below w.heap.size w w' := by
  obtain rfl : u = _ := hu
  have hlt := World.block_lt_of_cell? _ _ hc
  by_cases hq : d.name = name
  · have hd : decide (d.name = name) = true := decide_eq_true hq
    rw [hd]
    have hqb : (d.name.toList == name.toList) = true := by rw [bytes_beq]; exact hd
    clear hq hd
    go_enter Tryz.func72, Tryz.ntmps72
    go_wp2_with fail
    go_ret
    exact ⟨rfl, (Below.refl _ _).alloc (Nat.le_refl _) _⟩
  · have hd : decide (d.name = name) = false := decide_eq_false hq
    rw [hd]
    have hqb : (d.name.toList == name.toList) = false := by rw [bytes_beq]; exact hd
    clear hq hd
    go_enter Tryz.func72, Tryz.ntmps72
    go_wp2_with fail
    go_ret
    exact ⟨rfl, (Below.refl _ _).alloc (Nat.le_refl _) _⟩
/-- Where a bond of a name is. -/
def bFind (l : List Bnd) (name : ByteArray) : Int := idxI (fun b => decide (b.name = name)) l
theorem bFind_any (l : List Bnd) (name : ByteArray) (v : Value) (w : World) (hv : Sl bndL w v l) :
    Calls Tryz.prog 47 #[v, .string name] w fun e w' => e = .returned (.int .i64 (bFind l name)) ∧ Below w.heap.size w w' := by
  have hb0 : Below w.heap.size w (w.alloc (.cells #[.string name] 9)) := (Below.refl _ _).alloc (Nat.le_refl _) _
  have h1 := idx_bnds 72 #[.pointer (some ⟨w.heap.size, 0, none⟩)] (by intro args w; kernel_rfl) (fun k => decide (k.name = name)) l v _ (hv.below hb0)
    (fun d u wx hx hu => bFind1_any d name u w.heap.size wx hu (cell_below hx (by rw [World.cell?_alloc_at _ _ _ _ rfl]; rfl)))
  obtain ⟨A, c, rfl, _, _⟩ := hv.form
  clear hv
  go_enter Tryz.func47, Tryz.ntmps47
  go_wp2_with fail
  refine h1.mono ?_
  rintro e w2 ⟨rfl, hb2⟩
  go_wp2_with fail
  go_ret
  exact ⟨rfl, hb0.trans (hb2.mono (by simp))⟩
theorem sFind_any (s : Scm) (name : ByteArray) (vk vb : Value) (w : World) (hv : ScmR w vk vb s) :
    Calls Tryz.prog 39 #[.agg #[vk, vb], .string name] w fun e w' => e = .returned (.int .i64 (bFind s.bonds name)) ∧ Below w.heap.size w w' := by
  have hb0 : Below w.heap.size w (w.alloc (.cells #[vk, vb] 25)) := (Below.refl _ _).alloc (Nat.le_refl _) _
  have h1 := bFind_any s.bonds name vb _ (hv.2.below hb0)
  obtain ⟨A, c, rfl, _, _⟩ := hv.1.form
  obtain ⟨A', c', rfl, _, _⟩ := hv.2.form
  clear hv
  go_enter Tryz.func39, Tryz.ntmps39
  go_wp2_with fail
  refine h1.mono ?_
  rintro e w2 ⟨rfl, hb2⟩
  go_wp2_with fail
  go_ret
  exact ⟨rfl, hb0.trans (hb2.mono (by simp))⟩
def rngB (b : Bnd) : Prop := b.mn < 0 ∨ 20 < b.mn ∨ (b.mx ≠ -1 ∧ (b.mx < b.mn ∨ 20 < b.mx))
instance (b : Bnd) : Decidable (rngB b) := by unfold rngB; infer_instance
/-- What is wrong with a bond, behind those that are right. -/
def bndE (ks : List Knd) (p : List Bnd) (b : Bnd) : Int :=
  if nameE b.name = 0 then (if 0 ≤ bFind p b.name then 7 else if kFind ks b.src < 0 ∨ kFind ks b.dst < 0 then 5 else if rngB b then 1 else 0) else nameE b.name
def bndsE (ks : List Knd) : List Bnd → List Bnd → ByteArray × Int
  | _, [] => (.empty, 0)
  | p, b :: r => if bndE ks p b = 0 then bndsE ks (p ++ [b]) r else (b.name, bndE ks p b)
/-- The fault of a schema, and with whom. -/
def scmE (s : Scm) : ByteArray × Int := if (checkE s.kinds).2 = 0 then (if 12 < s.bonds.length then (.empty, 4) else bndsE s.kinds [] s.bonds) else checkE s.kinds
theorem cell_box5 (w : World) (a b c d e : Value) (t : TypeId) : (w.alloc (.cells #[a, b, c, d, e] t)).cell? ⟨w.heap.size, 0, none⟩ = some a ∧ (w.alloc (.cells #[a, b, c, d, e] t)).cell? ⟨w.heap.size, 1, none⟩ = some b ∧
    (w.alloc (.cells #[a, b, c, d, e] t)).cell? ⟨w.heap.size, 2, none⟩ = some c ∧ (w.alloc (.cells #[a, b, c, d, e] t)).cell? ⟨w.heap.size, 3, none⟩ = some d ∧ (w.alloc (.cells #[a, b, c, d, e] t)).cell? ⟨w.heap.size, 4, none⟩ = some e :=
  ⟨by rw [World.cell?_alloc_at _ _ _ _ rfl]; rfl, by rw [World.cell?_alloc_at _ _ _ _ rfl]; rfl, by rw [World.cell?_alloc_at _ _ _ _ rfl]; rfl, by rw [World.cell?_alloc_at _ _ _ _ rfl]; rfl, by rw [World.cell?_alloc_at _ _ _ _ rfl]; rfl⟩
set_option maxRecDepth 100000 in
set_option maxHeartbeats 8000000 in
theorem bond_any (s : Scm) (i : Nat) (d : Bnd) (vk vb : Value) (w : World) (hv : ScmR w vk vb s) (hd : s.bonds[i]? = some d) :
    Calls Tryz.prog 21 #[.agg #[vk, vb], .int .i64 i] w fun e w' => e = .returned (errV (bndE s.kinds (s.bonds.take i) d)) ∧ Below w.heap.size w w' := by
  obtain ⟨Ak, ck, rfl, _, _⟩ := hv.1.form
  obtain ⟨Ab, cb, rfl, hlc, hcm⟩ := hv.2.form
  obtain ⟨b, o, rfl, hok, c0, c1, c2, c3, c4⟩ := bnd_at hv.2 hd
  have hil := (List.getElem?_eq_some_iff.1 hd).1
  have hb0 : Below w.heap.size w (w.alloc (.cells #[.slice Ak s.kinds.length ck, .slice (some ⟨b, o, none⟩) s.bonds.length cb] 25)) := (Below.refl _ _).alloc (Nat.le_refl _) _
  obtain ⟨x0, x1⟩ := cell_box2 w (.slice Ak s.kinds.length ck) (.slice (some ⟨b, o, none⟩) s.bonds.length cb) 25
  have HV0 := Lib.hid (show ScmR _ _ _ s from ⟨hv.1.below hb0, hv.2.below hb0⟩)
  have d0 := cell_below hb0 c0
  have d1 := cell_below hb0 c1
  have d2 := cell_below hb0 c2
  have d3 := cell_below hb0 c3
  have d4 := cell_below hb0 c4
  have HE : Hid (bndE s.kinds (s.bonds.take i) d = if nameE d.name = 0 then (if 0 ≤ bFind (s.bonds.take i) d.name then 7 else if kFind s.kinds d.src < 0 ∨ kFind s.kinds d.dst < 0 then 5 else if rngB d then 1 else 0) else nameE d.name) := rfl
  have hw0 := hb0.size
  have hil' : (i : Int) < (s.bonds.length : Int) := by omega
  clear hv c0 c1 c2 c3 c4 hd
  have hsz0 : (w.alloc (.cells #[.slice Ak s.kinds.length ck, .slice (some ⟨b, o, none⟩) s.bonds.length cb] 25)).heap.size = w.heap.size + 1 := by simp
  go_enter Tryz.func21, Tryz.ntmps21
  go_wp2_with fail
  generalize w.alloc (.cells #[.slice Ak s.kinds.length ck, .slice (some ⟨b, o, none⟩) s.bonds.length cb] 25) = w0 at *
  have hb1 : Below w0.heap.size w0 (w0.alloc (.cells #[.string d.name, .string d.src, .string d.dst, .int .i64 d.mn, .int .i64 d.mx] 40)) := (Below.refl _ _).alloc (Nat.le_refl _) _
  obtain ⟨z0, z1, z2, z3, z4⟩ := cell_box5 w0 (.string d.name) (.string d.src) (.string d.dst) (.int .i64 d.mn) (.int .i64 d.mx) 40
  rw [hsz0] at z0 z1 z2 z3 z4
  have x0 := cell_below hb1 x0
  have x1 := cell_below hb1 x1
  have hw1 := hb1.size
  generalize w0.alloc (.cells #[.string d.name, .string d.src, .string d.dst, .int .i64 d.mn, .int .i64 d.mx] 40) = w1 at *
  refine (name_any d.name w1 hok.1).mono ?_
  rintro e w2 ⟨rfl, hb2⟩
  have hb02 := hb1.trans (hb2.mono hw1)
  have hB2 := hb0.trans (hb02.mono hw0)
  have HV2 := Lib.hid (show ScmR w2 _ _ s from ⟨HV0.out.1.below hb02, HV0.out.2.below hb02⟩)
  have x0 := cell_below hb2 x0
  have x1 := cell_below hb2 x1
  have z0 := cell_below hb2 z0
  have z1 := cell_below hb2 z1
  have z2 := cell_below hb2 z2
  have z3 := cell_below hb2 z3
  have z4 := cell_below hb2 z4
  have hw2 := hB2.size
  clear d0 d1 d2 d3 d4 hb02 hb2 hb1
  by_cases he : nameE d.name = 0
  case neg =>
    have HF : Hid (errV (bndE s.kinds (s.bonds.take i) d) = .iface 54 (.int .i64 (nameE d.name))) := by unfold Hid; rw [HE.out, if_neg he]; exact errV_some he
    rw [errV_some he]
    clear he HE
    go_wp2_with fail
    go_ret
    exact ⟨by rw [HF.out]; rfl, hB2⟩
  have HE2 : Hid (bndE s.kinds (s.bonds.take i) d = if 0 ≤ bFind (s.bonds.take i) d.name then 7 else if kFind s.kinds d.src < 0 ∨ kFind s.kinds d.dst < 0 then 5 else if rngB d then 1 else 0) := by unfold Hid; rw [HE.out, if_pos he]
  rw [errV_zero he]
  have hic : (i : Int) ≤ (cb : Int) := by omega
  clear he HE
  go_wp2_with fail
  refine wp_mid_k 6 _ rfl rfl (by kernel_rfl) (by kernel_rfl) ?_
  simp only [List.take_succ_cons, List.take_zero, List.drop_succ_cons, List.drop_zero]
  repeat (go_big_quiet_step (fail))
  refine wpQuiet_nil ?_
  intro _ hw'
  obtain ⟨nq, hw''⟩ := hw'
  subst hw''
  intro K hK
  have hf := bFind_any (s.bonds.take i) d.name (.slice (some ⟨b, o, none⟩) i cb) (w2.drewN nq) ((Sl.take HV2.out.2 (by omega)).below (Go.below_drewN (Below.refl _ _) nq))
  generalize bFind (s.bonds.take i) d.name = q at *
  go_wp2_with fail
  refine hf.mono ?_
  clear hf
  rintro e w3 ⟨rfl, hb3⟩
  have hB3' := (Go.below_drewN (Below.refl w2.heap.size w2) nq).trans hb3
  have x0 := cell_below hB3' x0
  have x1 := cell_below hB3' x1
  have z0 := cell_below hB3' z0
  have z1 := cell_below hB3' z1
  have z2 := cell_below hB3' z2
  have z3 := cell_below hB3' z3
  have z4 := cell_below hB3' z4
  have HV3 := Lib.hid (show Sl kndL w3 _ s.kinds from HV2.out.1.below hB3')
  have hB3 := hB2.trans (hB3'.mono hw2)
  clear hb3 hB3' HV2 hB2
  refine hK _ _ ?_
  repeat (go_big_quiet_step (fail))
  refine wpQuiet_nil ?_
  intro _ hw'
  obtain ⟨nq2, hw''⟩ := hw'
  subst hw''
  clear hK
  by_cases hq : 0 ≤ q
  · have HF : Hid (bndE s.kinds (s.bonds.take i) d = 7) := by unfold Hid; rw [HE2.out, if_pos hq]
    clear HE2
    go_wp2_with fail
    go_ret
    exact ⟨by rw [HF.out]; rfl, Go.below_drewN hB3 _⟩
  have hq' : q < 0 := by omega
  have HE3 : Hid (bndE s.kinds (s.bonds.take i) d = if kFind s.kinds d.src < 0 ∨ kFind s.kinds d.dst < 0 then 5 else if rngB d then 1 else 0) := by unfold Hid; rw [HE2.out, if_neg hq]
  have hB4 := Go.below_drewN hB3 nq2
  have HV4 := Lib.hid (HV3.out.below (Go.below_drewN (Below.refl w3.heap.size w3) nq2))
  have hk1 := kFind_any s.kinds d.src _ _ HV4.out
  clear HE2 hq HV3 hB3
  have hdw := Go.below_drewN (Below.refl w3.heap.size w3) nq2
  have x0 := cell_below hdw x0
  have x1 := cell_below hdw x1
  have z0 := cell_below hdw z0
  have z1 := cell_below hdw z1
  have z2 := cell_below hdw z2
  have z3 := cell_below hdw z3
  have z4 := cell_below hdw z4
  clear hdw
  generalize w3.drewN nq2 = w4 at *
  generalize kFind s.kinds d.src = a at *
  go_wp2_with fail
  refine hk1.mono ?_
  clear hk1
  rintro e w5 ⟨rfl, hb5⟩
  have x0 := cell_below hb5 x0
  have x1 := cell_below hb5 x1
  have z2 := cell_below hb5 z2
  have z3 := cell_below hb5 z3
  have z4 := cell_below hb5 z4
  have hB5 := hB4.trans (hb5.mono hB4.size)
  by_cases ha : a < 0
  · have HF : Hid (bndE s.kinds (s.bonds.take i) d = 5) := by unfold Hid; rw [HE3.out, if_pos (.inl ha)]
    clear HE3
    go_wp2_with fail
    go_ret
    exact ⟨by rw [HF.out]; rfl, hB5⟩
  have ha' : 0 ≤ a := by omega
  have hk2 := kFind_any s.kinds d.dst _ _ (HV4.out.below hb5)
  generalize kFind s.kinds d.dst = c at *
  go_wp2_with fail
  refine hk2.mono ?_
  clear hk2
  rintro e w6 ⟨rfl, hb6⟩
  have z3 := cell_below hb6 z3
  have z4 := cell_below hb6 z4
  have hB6 := hB5.trans (hb6.mono hB5.size)
  clear x0 x1 z0 z1 z2 hb5 hb6 hB5 hB4 HV4
  by_cases hc : c < 0
  · have HF : Hid (bndE s.kinds (s.bonds.take i) d = 5) := by unfold Hid; rw [HE3.out, if_pos (.inr hc)]
    clear HE3
    go_wp2_with fail
    go_ret
    exact ⟨by rw [HF.out]; rfl, hB6⟩
  have hc' : 0 ≤ c := by omega
  have HE4 : Hid (bndE s.kinds (s.bonds.take i) d = if rngB d then 1 else 0) := by unfold Hid; rw [HE3.out, if_neg (by omega)]
  have HRB : Hid (rngB d ↔ (d.mn < 0 ∨ 20 < d.mn ∨ (d.mx ≠ -1 ∧ (d.mx < d.mn ∨ 20 < d.mx)))) := Iff.rfl
  clear HE3 ha hc
  generalize d.mn = mn at *
  generalize d.mx = mx at *
  by_cases hr : rngB d
  · have HF : Hid (bndE s.kinds (s.bonds.take i) d = 1) := by unfold Hid; rw [HE4.out, if_pos hr]
    have hr2 := HRB.out.1 hr
    clear HE4 HRB hr
    by_cases e1 : mn < 0
    · clear hr2
      go_wp2_with fail
      go_ret
      exact ⟨by rw [HF.out]; rfl, hB6⟩
    have e1' : 0 ≤ mn := by omega
    by_cases e2 : 20 < mn
    · clear hr2 e1
      go_wp2_with fail
      go_ret
      exact ⟨by rw [HF.out]; rfl, hB6⟩
    have e2' : mn ≤ 20 := by omega
    have e3 : (mx != -1) = true := bne_iff_ne.2 (by omega)
    have e3' : ¬ mx = -1 := by omega
    by_cases e4 : mx < mn
    · clear hr2 e1 e2
      go_wp2_with fail
      go_ret
      exact ⟨by rw [HF.out]; rfl, hB6⟩
    have e4' : mn ≤ mx := by omega
    have e5 : 20 < mx := by omega
    clear hr2 e1 e2 e4
    go_wp2_with fail
    go_ret
    exact ⟨by rw [HF.out]; rfl, hB6⟩
  · have HF : Hid (bndE s.kinds (s.bonds.take i) d = 0) := by unfold Hid; rw [HE4.out, if_neg hr]
    have hr2 : ¬ (mn < 0 ∨ 20 < mn ∨ (mx ≠ -1 ∧ (mx < mn ∨ 20 < mx))) := fun h => hr (HRB.out.2 h)
    have e1' : 0 ≤ mn := by omega
    have e2' : mn ≤ 20 := by omega
    clear HE4 HRB hr
    by_cases e3 : mx = -1
    · subst e3
      clear hr2
      go_wp2_with fail
      go_ret
      exact ⟨by rw [HF.out]; rfl, hB6⟩
    have e3' : (mx != -1) = true := bne_iff_ne.2 e3
    have e4' : mn ≤ mx := by omega
    have e5' : mx ≤ 20 := by omega
    clear hr2
    go_wp2_with fail
    go_ret
    exact ⟨by rw [HF.out]; rfl, hB6⟩

theorem bndsE_step {ks : List Knd} {l : List Bnd} {k : Nat} {d : Bnd} {E : ByteArray × Int} (hd : l[k]? = some d) (h : E = bndsE ks (l.take k) (l.drop k)) :
    E = if bndE ks (l.take k) d = 0 then bndsE ks (l.take (k + 1)) (l.drop (k + 1)) else (d.name, bndE ks (l.take k) d) := by
  rw [h, drop_cons hd, bndsE, take_step hd]
def SCheckR (s : Scm) (w : World) (e : Ending) (w' : World) : Prop := e = .returned (.tuple #[.string (scmE s).1, errV (scmE s).2]) ∧ Below w.heap.size w w'
set_option maxRecDepth 100000 in
set_option maxHeartbeats 4000000 in
theorem scheck_any (s : Scm) (vk vb : Value) (w : World) (hv : ScmR w vk vb s) : Calls Tryz.prog 5 #[.agg #[vk, vb]] w (SCheckR s w) := by
  obtain ⟨Ak, ck, rfl, _, _⟩ := hv.1.form
  obtain ⟨Ab, cb, rfl, hlc, hcm⟩ := hv.2.form
  have hb0 : Below w.heap.size w (w.alloc (.cells #[.slice Ak s.kinds.length ck, .slice Ab s.bonds.length cb] 25)) := (Below.refl _ _).alloc (Nat.le_refl _) _
  obtain ⟨x0, x1⟩ := cell_box2 w (.slice Ak s.kinds.length ck) (.slice Ab s.bonds.length cb) 25
  have HV := Lib.hid (hv.below hb0)
  have hck := kcheck_any s.kinds _ _ (hv.1.below hb0)
  have HE0 : Hid (scmE s = if (checkE s.kinds).2 = 0 then (if 12 < s.bonds.length then (.empty, 4) else bndsE s.kinds [] s.bonds) else checkE s.kinds) := rfl
  have hw0 := hb0.size
  clear hv
  go_enter Tryz.func5, Tryz.ntmps5
  go_wp2_with fail
  generalize w.alloc (.cells #[.slice Ak s.kinds.length ck, .slice Ab s.bonds.length cb] 25) = w0 at *
  refine hck.mono ?_
  clear hck
  rintro e w1 ⟨rfl, hb1⟩
  have hB1 := hb0.trans (hb1.mono hw0)
  have x0 := cell_below hb1 x0
  have x1 := cell_below hb1 x1
  have HV1 := Lib.hid (HV.out.below hb1)
  have hw1 := hB1.size
  generalize hce : checkE s.kinds = ce at *
  by_cases he : ce.2 = 0
  case neg =>
    have HF : Hid (scmE s = ce) := by unfold Hid; rw [HE0.out, if_neg he]
    have HF2 : Hid (errV ce.2 = .iface 54 (.int .i64 ce.2)) := errV_some he
    rw [errV_some he]
    clear he HE0 hce
    go_wp2_with fail
    go_ret2
    exact ⟨by rw [HF.out, HF2.out]; rfl, hB1⟩
  have HE1 : Hid (scmE s = if 12 < s.bonds.length then (.empty, 4) else bndsE s.kinds [] s.bonds) := by unfold Hid; rw [HE0.out, if_pos he]
  rw [errV_zero he]
  clear he HE0 hce
  by_cases h12 : 12 < s.bonds.length
  · have HF : Hid (scmE s = (.empty, 4)) := by unfold Hid; rw [HE1.out, if_pos h12]
    have h12' : (12 : Int) < (s.bonds.length : Int) := by omega
    clear HE1
    go_wp2_with fail
    go_ret2
    exact ⟨by rw [HF.out]; rfl, hB1⟩
  have HE2 : Hid (scmE s = bndsE s.kinds [] s.bonds) := by unfold Hid; rw [HE1.out, if_neg h12]
  have h12' : (s.bonds.length : Int) ≤ 12 := by omega
  clear HE1 h12
  go_wp2_with fail
  go_loopw [27] (fun i wr => ∃ k : Nat, k ≤ s.bonds.length ∧ i = .int .i64 k ∧ Below w1.heap.size w1 wr ∧ Hid (scmE s = bndsE s.kinds (s.bonds.take k) (s.bonds.drop k))) (fun i _ => s.bonds.length - (intOf i).toNat)
  case atStart => exact ⟨0, Nat.zero_le _, rfl, Below.refl _ _, HE2.out⟩
  case round =>
    obtain ⟨k, hk, rfl, hb, HR⟩ := hrel
    have y0 := cell_below hb x0
    have y1 := cell_below hb x1
    have hBr := hB1.trans (hb.mono hw1)
    clear x0 x1
    by_cases hlt : k < s.bonds.length
    · obtain ⟨d, hd⟩ : ∃ d, s.bonds[k]? = some d := ⟨_, List.getElem?_eq_getElem hlt⟩
      have hlt' : (k : Int) < (s.bonds.length : Int) := by omega
      have HV2 := Lib.hid (HV1.out.below hb)
      obtain ⟨b, o, rfl, hok, c0, c1, c2, c3, c4⟩ := bnd_at HV2.out.2 hd
      have hbx : Below wr.heap.size wr (wr.alloc (.cells #[.string d.name, .string d.src, .string d.dst, .int .i64 d.mn, .int .i64 d.mx] 40)) := (Below.refl _ _).alloc (Nat.le_refl _) _
      obtain ⟨z0, _, _, _, _⟩ := cell_box5 wr (.string d.name) (.string d.src) (.string d.dst) (.int .i64 d.mn) (.int .i64 d.mx) 40
      have v0 := cell_below hbx y0
      have v1 := cell_below hbx y1
      have hbd := bond_any s k d _ _ _ (HV2.out.below hbx) hd
      have HS := Lib.hid (bndsE_step hd HR.out)
      generalize bndE s.kinds (s.bonds.take k) d = q at *
      clear hd HR
      go_wp2_with fail
      refine hbd.mono ?_
      clear hbd
      rintro e w3 ⟨rfl, hb3⟩
      have hB3 := hb.trans ((hbx.trans (hb3.mono hbx.size)).mono hb.size)
      have z0 := cell_below hb3 z0
      by_cases hq : q = 0
      · have HS2 : Hid (scmE s = bndsE s.kinds (s.bonds.take (k + 1)) (s.bonds.drop (k + 1))) := by unfold Hid; rw [HS.out, if_pos hq]
        rw [errV_zero hq]
        clear hq HS v0 v1 c0 c1 c2 c3 c4
        go_wp2_with fail
        go_roundw
        case rel => exact ⟨k + 1, by omega, by go_num, hB3, HS2⟩
        case measure => simp [intOf]; omega
      · have HF : Hid (scmE s = (d.name, q)) := by unfold Hid; rw [HS.out, if_neg hq]
        have HF2 : Hid (errV q = .iface 54 (.int .i64 q)) := errV_some hq
        rw [errV_some hq]
        clear hq HS v0 v1 c0 c1 c2 c3 c4
        go_wp2_with fail
        go_ret2
        exact ⟨by rw [HF.out, HF2.out]; rfl, hB1.trans (hB3.mono hw1)⟩
    · obtain rfl : k = s.bonds.length := by omega
      have HF : Hid (scmE s = (.empty, 0)) := by unfold Hid; rw [HR.out, List.drop_length]; rfl
      clear HR
      go_wp2_with fail
      go_ret2
      exact ⟨by rw [HF.out]; rfl, hBr⟩
theorem sright_any (s : Scm) (vk vb : Value) (w : World) (hv : ScmR w vk vb s) : Calls Tryz.prog 24 #[.agg #[vk, vb]] w fun e w' => e = .returned (errV (scmE s).2) ∧ Below w.heap.size w w' := by
  have hb0 : Below w.heap.size w (w.alloc (.cells #[vk, vb] 25)) := (Below.refl _ _).alloc (Nat.le_refl _) _
  have h1 := scheck_any s vk vb _ (hv.below hb0)
  obtain ⟨z, hz⟩ : ∃ z, z = errV (scmE s).2 := ⟨_, rfl⟩
  have HZ := Lib.hid hz
  obtain ⟨A, c, rfl, _, _⟩ := hv.1.form
  obtain ⟨A', c', rfl, _, _⟩ := hv.2.form
  clear hv
  go_enter Tryz.func24, Tryz.ntmps24
  go_wp2_with fail
  refine h1.mono ?_
  clear h1
  rintro e w2 ⟨he, hb2⟩
  rw [← HZ.out] at he
  subst he
  clear hz
  go_wp2_with fail
  go_ret
  exact ⟨by rw [← HZ.out]; rfl, hb0.trans (hb2.mono (by simp))⟩


def recAt (l : List Nod) (id : Int) : List Prp := match l[fpos l id]? with | some n => n.props | none => []




/-- A step of a region that draws, as it stands. -/
theorem step_here {P : Program} {ops : Array Oper} {o : Oper} {a : Act} {w : World} {K : Act → World → Prop} {Q : Exit → Act → World → Prop} {E : Prop} (hg : o.guard = none) (h : Oper.wp P o a w K Q) :
    if Region.wanted o (yielded ops a.tmps) = true then Oper.wp P o a w K Q else E := by
  rw [if_pos (by simp [Region.wanted, hg])]; exact h


/-- Kinds of which each one's lists are the call's own. -/
def OwnKnds (w : World) (B : Nat) : List Knd → List Value → Prop
  | [], xs => xs = []
  | d :: l, xs => ∃ u x ys, xs = [.string d.name, u, x] ++ ys ∧ Sm d.name ∧ (∀ p ∈ d.ofs, Sm p) ∧ Own w B 9 1 u d.ofs.length (d.ofs.map Value.string) ∧ (∀ p ∈ d.fields, p.ok) ∧ Own w B 61 4 x d.fields.length (d.fields.flatMap Fld.enc) ∧ OwnKnds w B l ys
theorem OwnKnds.same {w w' : World} {B : Nat} (h1 : Same 9 w w') (h2 : Same 61 w w') : ∀ {l : List Knd} {xs : List Value}, OwnKnds w B l xs → OwnKnds w' B l xs
  | [], _, h => h
  | _ :: _, _, h => by
    obtain ⟨u, x, ys, rfl, a1, a2, a3, a4, a5, a6⟩ := h
    exact ⟨u, x, ys, rfl, a1, a2, a3.same h1, a4, a5.same h2, a6.same h1 h2⟩
theorem OwnKnds.snoc {w : World} {B : Nat} {d : Knd} {u x : Value} (a1 : Sm d.name) (a2 : ∀ p ∈ d.ofs, Sm p) (a3 : Own w B 9 1 u d.ofs.length (d.ofs.map Value.string)) (a4 : ∀ p ∈ d.fields, p.ok) (a5 : Own w B 61 4 x d.fields.length (d.fields.flatMap Fld.enc)) :
    ∀ {l : List Knd} {xs : List Value}, OwnKnds w B l xs → OwnKnds w B (l ++ [d]) (xs ++ [.string d.name, u, x])
  | [], xs, h => by rw [show xs = [] from h]; exact ⟨u, x, [], by simp, a1, a2, a3, a4, a5, rfl⟩
  | e :: l, xs, h => by
    obtain ⟨v, y, ys, rfl, b1, b2, b3, b4, b5, b6⟩ := h
    exact ⟨v, y, ys ++ [.string d.name, u, x], by simp, b1, b2, b3, b4, b5, b6.snoc a1 a2 a3 a4 a5⟩
theorem OwnKnds.len {w : World} {B : Nat} : ∀ {l : List Knd} {xs : List Value}, OwnKnds w B l xs → xs.length = l.length * 3
  | [], xs, h => by rw [show xs = [] from h]; rfl
  | d :: l, xs, h => by
    obtain ⟨u, x, ys, rfl, _, _, _, _, _, h6⟩ := h
    have := h6.len
    simp only [List.length_append, List.length_cons, List.length_nil, this]
    omega
theorem OwnKnds.row {w : World} {B : Nat} : ∀ {l : List Knd} {xs : List Value}, OwnKnds w B l xs → Row kndL w l xs
  | [], _, h => h
  | _ :: _, _, h => by
    obtain ⟨u, x, ys, rfl, a1, a2, a3, a4, a5, a6⟩ := h
    exact ⟨_, ys, rfl, ⟨u, x, rfl, a1, Own.strs a2 a3, a5.flds a4⟩, a6.row⟩
theorem OwnKnds.append {w : World} {B : Nat} : ∀ {l m : List Knd} {xs ys : List Value}, OwnKnds w B l xs → OwnKnds w B m ys → OwnKnds w B (l ++ m) (xs ++ ys)
  | [], m, xs, ys, h, k => by rw [show xs = [] from h]; exact k
  | d :: l, m, xs, ys, h, k => by
    obtain ⟨u, x, zs, rfl, a1, a2, a3, a4, a5, a6⟩ := h
    exact ⟨u, x, zs ++ ys, by simp, a1, a2, a3, a4, a5, a6.append k⟩





theorem OwnKnds.get {w : World} {B : Nat} : ∀ {l : List Knd} {xs : List Value} {i : Nat} {d : Knd}, OwnKnds w B l xs → l[i]? = some d →
    ∃ u x, xs[i * 3]? = some (.string d.name) ∧ xs[i * 3 + 1]? = some u ∧ xs[i * 3 + 2]? = some x ∧ Sm d.name ∧ (∀ p ∈ d.ofs, Sm p) ∧ Own w B 9 1 u d.ofs.length (d.ofs.map Value.string) ∧ (∀ p ∈ d.fields, p.ok) ∧ Own w B 61 4 x d.fields.length (d.fields.flatMap Fld.enc)
  | [], xs, i, d, h, hi => by simp at hi
  | e :: l, xs, 0, d, h, hi => by
    simp at hi
    subst hi
    obtain ⟨u, x, ys, rfl, a1, a2, a3, a4, a5, _⟩ := h
    exact ⟨u, x, rfl, rfl, rfl, a1, a2, a3, a4, a5⟩
  | e :: l, xs, i + 1, d, h, hi => by
    obtain ⟨u, x, ys, rfl, _, _, _, _, _, a6⟩ := h
    obtain ⟨u', x', b1, b2, b3, hr⟩ := OwnKnds.get a6 (by simpa using hi)
    have e1 : (i + 1) * 3 = i * 3 + 1 + 1 + 1 := by omega
    have e2 : (i + 1) * 3 + 1 = i * 3 + 1 + 1 + 1 + 1 := by omega
    have e3 : (i + 1) * 3 + 2 = i * 3 + 2 + 1 + 1 + 1 := by omega
    exact ⟨u', x', by rw [e1]; exact b1, by rw [e2]; exact b2, by rw [e3]; exact b3, hr⟩
/-- Another row of fields in the place of one: what is read of the other rows lies where it lay. -/
theorem OwnKnds.put {w w' : World} {B : Nat} {fs : List Fld} {v : Value} (h1 : Same 9 w w') (hk : ∀ p ∈ fs, p.ok) (ho : Own w' B 61 4 v fs.length (fs.flatMap Fld.enc)) :
    ∀ {l : List Knd} {xs : List Value} {i : Nat} {d : Knd}, OwnKnds w B l xs → l[i]? = some d → (∀ j e x n ys, j ≠ i → l[j]? = some e → xs[j * 3 + 2]? = some x → Own w B 61 4 x n ys → Own w' B 61 4 x n ys) →
    OwnKnds w' B (l.set i ⟨d.name, d.ofs, fs⟩) (xs.set (i * 3 + 2) v)
  | [], xs, i, d, h, hi, _ => by simp at hi
  | e :: l, xs, 0, d, h, hi, hoth => by
    simp at hi
    subst hi
    obtain ⟨u, x, ys, rfl, a1, a2, a3, a4, a5, a6⟩ := h
    refine ⟨u, v, ys, rfl, a1, a2, a3.same h1, hk, ho, ?_⟩
    have : ∀ {l : List Knd} {ys : List Value}, OwnKnds w B l ys → (∀ j e x n zs, l[j]? = some e → ys[j * 3 + 2]? = some x → Own w B 61 4 x n zs → Own w' B 61 4 x n zs) → OwnKnds w' B l ys := by
      intro l
      induction l with
      | nil => intro ys h _; exact h
      | cons e l ih =>
        intro ys h hh
        obtain ⟨u, x, zs, rfl, b1, b2, b3, b4, b5, b6⟩ := h
        exact ⟨u, x, zs, rfl, b1, b2, b3.same h1, b4, hh 0 e x _ _ rfl rfl b5, ih b6 (fun j e' x' n zs' hj hx => hh (j + 1) e' x' n zs' (by simpa using hj) (by rw [show (j + 1) * 3 + 2 = j * 3 + 2 + 1 + 1 + 1 by omega]; exact hx))⟩
    exact this a6 (fun j e' x' n zs' hj hx => hoth (j + 1) e' x' n zs' (by omega) (by simpa using hj) (by rw [show (j + 1) * 3 + 2 = j * 3 + 2 + 1 + 1 + 1 by omega]; exact hx))
  | e :: l, xs, i + 1, d, h, hi, hoth => by
    obtain ⟨u, x, ys, rfl, a1, a2, a3, a4, a5, a6⟩ := h
    have e3 : (i + 1) * 3 + 2 = i * 3 + 2 + 1 + 1 + 1 := by omega
    rw [e3]
    exact ⟨u, x, ys.set (i * 3 + 2) v, rfl, a1, a2, a3.same h1, a4, hoth 0 e x _ _ (by omega) rfl rfl a5, OwnKnds.put h1 hk ho a6 (by simpa using hi) (fun j e' x' n zs' hj hx hxx => hoth (j + 1) e' x' n zs' (by omega) (by simpa using hx) (by rw [show (j + 1) * 3 + 2 = j * 3 + 2 + 1 + 1 + 1 by omega]; exact hxx))⟩

def setF (s : Scm) (i : Nat) (d : Knd) (fs : List Fld) : Scm := ⟨s.kinds.set i ⟨d.name, d.ofs, fs⟩, s.bonds⟩



theorem Own.shift {P : Program} {w : World} {B : Nat} {e : TypeId} {g o n c i sz : Nat} {xs : List Value} (t : TypeId) (i0 : TypeInfo) (ht : P.underlying t = some (.slice e)) (hi : P.info? e = some i0) (hs : i0.size = sz)
    (h : Own w B e sz (.slice (some ⟨g, o, none⟩) n c) n xs) (hx1 : ∀ u ∈ xs, u.oneCell' = true) (hin : i < n) (a : Addr) (ha : ∀ j u, (xs.drop ((i + 1) * sz))[j]? = some u → w.cell? (a.add j) = some u) :
    ∃ w', (∀ ty c', (Builtin.append_ #[t, t] ty #[.slice (some ⟨g, o, none⟩) i c, .slice (some a) (n - (i + 1)) c']).run P w = .ok (.slice (some ⟨g, o, none⟩) (n - 1) c) w') ∧
      Own w' B e sz (.slice (some ⟨g, o, none⟩) n c) n (xs.take (i * sz) ++ xs.drop ((i + 1) * sz) ++ xs.drop ((n - 1) * sz)) ∧ w.grownBy w' (some g) := by
  rcases h.2 with ⟨h0, _⟩ | ⟨g', o', cap, cur, hv, hb, hg, h2, h3, h4, h5⟩
  · cases h0
  · injection hv with e1 _ e3
    injection e1 with e1
    injection e1 with e1 e2
    subst e1; subst e2; subst e3
    have hlen := h.1
    have hnc : n * sz ≤ c * sz := Nat.mul_le_mul_right _ h2
    have hin2 : i * sz + sz ≤ n * sz := by have := Nat.mul_le_mul_right sz (show i + 1 ≤ n by omega); rw [Nat.add_mul, Nat.one_mul] at this; exact this
    have e5 : (i + 1) * sz = i * sz + sz := by rw [Nat.add_mul, Nat.one_mul]
    have e6 : (n - 1) * sz = n * sz - sz := by rw [Nat.sub_mul, Nat.one_mul]
    have e7 : (n - (i + 1)) * sz = n * sz - (i * sz + sz) := by rw [Nat.sub_mul, e5]
    have hdl : (xs.drop ((i + 1) * sz)).length = (n - (i + 1)) * sz := by rw [List.length_drop, hlen, Nat.sub_mul]
    have e8 : i + (n - (i + 1)) = n - 1 := by omega
    refine ⟨w.setRow g (cur.toList.take (o + i * sz) ++ xs.drop ((i + 1) * sz) ++ cur.toList.drop (o + i * sz + (xs.drop ((i + 1) * sz)).length)).toArray, fun ty c' => ?_, ⟨?_, .inr ⟨g, o, c, _, rfl, hb, setRow_heap w g cur _ e _ hg, h2, h3, ?_, ?_⟩⟩, grownBy_setRow⟩
    · have := run_append_at (P := P) w t ty e i0 ht hi g o i c cur hg a (n - (i + 1)) c' (xs.drop ((i + 1) * sz)) (by rw [hs, hdl]) ha (fun u hu => hx1 u (List.mem_of_mem_drop hu)) (by omega) (by rw [hs, hdl, e7]; omega)
      rw [hs, e8] at this
      exact this
    · simp only [List.length_append, List.length_take, List.length_drop, hlen, e5, e6]
      omega
    · simp only [List.size_toArray, List.length_append, List.length_take, List.length_drop, Array.length_toList, hlen, e5]
      omega
    · have hcl : cur.toList = cur.toList.take o ++ xs ++ cur.toList.drop (o + n * sz) := by
        conv => lhs; rw [← List.take_append_drop o cur.toList, ← List.take_append_drop (n * sz) (cur.toList.drop o), h5]
        rw [List.drop_drop, List.append_assoc]
      have hol : (cur.toList.take o).length = o := by simp; omega
      generalize cur.toList.take o = A at *
      generalize cur.toList.drop (o + n * sz) = C at *
      rw [hcl, hdl, e7, e5, e6]
      subst hol
      have hxs : xs = xs.take (i * sz) ++ xs.drop (i * sz) := (List.take_append_drop _ _).symm
      have t1 : (A ++ xs ++ C).take (A.length + i * sz) = A ++ xs.take (i * sz) := by
        rw [List.append_assoc, List.take_append, List.take_of_length_le (by omega), show A.length + i * sz - A.length = i * sz by omega, List.take_append_of_le_length (by omega)]
      have t2 : (A ++ xs ++ C).drop (A.length + i * sz + (n * sz - (i * sz + sz))) = xs.drop (n * sz - sz) ++ C := by
        rw [List.append_assoc, List.drop_append, List.drop_of_length_le (by omega), List.nil_append, List.drop_append_of_le_length (by omega)]
        congr 2
        omega
      rw [t1, t2]
      show ((A ++ xs.take (i * sz) ++ xs.drop (i * sz + sz) ++ (xs.drop (n * sz - sz) ++ C)).drop A.length).take (n * sz) = _
      rw [List.append_assoc, List.append_assoc, List.drop_left]
      rw [show xs.take (i * sz) ++ (xs.drop (i * sz + sz) ++ (xs.drop (n * sz - sz) ++ C)) = (xs.take (i * sz) ++ xs.drop (i * sz + sz) ++ xs.drop (n * sz - sz)) ++ C by simp]
      rw [List.take_append_of_le_length (by simp; omega), List.take_of_length_le (by simp; omega)]















theorem OwnKnds.split {w : World} {B : Nat} : ∀ {l : List Knd} {xs : List Value} (i : Nat), i ≤ l.length → OwnKnds w B l xs → OwnKnds w B (l.take i) (xs.take (i * 3)) ∧ OwnKnds w B (l.drop i) (xs.drop (i * 3))
  | l, xs, 0, _, h => by simp only [List.take_zero, Nat.zero_mul, List.drop_zero]; exact ⟨rfl, h⟩
  | [], xs, i + 1, hi, h => by simp at hi
  | d :: l, xs, i + 1, hi, h => by
    obtain ⟨u, x, ys, rfl, h1, h2, h3, h4, h5, h6⟩ := h
    obtain ⟨k1, k2⟩ := h6.split i (by simpa using hi)
    have e : (i + 1) * 3 = i * 3 + 1 + 1 + 1 := by omega
    rw [e]
    exact ⟨⟨u, x, ys.take (i * 3), rfl, h1, h2, h3, h4, h5, k1⟩, k2⟩




section
variable {P : Program} {ops : Array Oper} {Q : Exit → Act → World → Prop} {md : Region.Mode} {S : World → Prop} {n : Nat}

end















theorem fldE_zero {p : Option Fld} {f : Fld} (h : fldE p f = 0) : nameE f.name = 0 ∧ ∀ q, p = some q → cmpS q.name f.name < 0 := by
  unfold fldE at h
  split at h
  · rename_i h1
    refine ⟨h1, fun q hq => ?_⟩
    subst hq
    split at h
    · split at h
      · omega
      · simp only at h
        split at h
        · rename_i hl
          rw [ltS_cmp] at hl
          simpa using hl
        · omega
    · omega
  · rename_i h1; exact absurd h h1
theorem fldsE_zero : ∀ {l : List Fld} {p : Option Fld}, fldsE p l = 0 → (∀ f ∈ l, nameE f.name = 0) ∧ Rise l ∧ (∀ q, p = some q → ∀ f ∈ l, cmpS q.name f.name < 0)
  | [], p, _ => ⟨by simp, List.Pairwise.nil, by simp⟩
  | f :: l, p, h => by
    rw [fldsE] at h
    split at h
    · rename_i h0
      obtain ⟨a1, a2⟩ := fldE_zero h0
      obtain ⟨b1, b2, b3⟩ := fldsE_zero h
      refine ⟨fun x hx => ?_, List.Pairwise.cons (fun x hx => b3 f rfl x hx) b2, fun q hq x hx => ?_⟩
      · rcases List.mem_cons.1 hx with rfl | hx
        · exact a1
        · exact b1 x hx
      · rcases List.mem_cons.1 hx with rfl | hx
        · exact a2 q hq
        · exact cmpS_trans (a2 q hq) (b3 f rfl x hx)
    · rename_i h0; exact absurd h h0
theorem Right.flds {l : List Knd} (h : Right l) {d : Knd} (hd : d ∈ l) : (∀ f ∈ d.fields, nameE f.name = 0) ∧ Rise d.fields ∧ d.fields.length ≤ 8 := by
  obtain ⟨i, hi⟩ := List.mem_iff_getElem?.1 hd
  have ho := h.one i d hi
  obtain ⟨h1, h2, _⟩ := fldsE_zero ho.fls
  exact ⟨h1, h2, ho.fll⟩
theorem bndsE_zero {ks : List Knd} : ∀ {r p : List Bnd}, (bndsE ks p r).2 = 0 → ∀ (i : Nat) b, r[i]? = some b → bndE ks (p ++ r.take i) b = 0
  | [], _, _, i, b, h => by simp at h
  | x :: r, p, h, i, b, hb => by
    rw [bndsE] at h
    split at h
    · rename_i h0
      cases i with
      | zero => simp at hb; subst hb; simpa using h0
      | succ i =>
        have := bndsE_zero h i b (by simpa using hb)
        simpa using this
    · rename_i h0; exact absurd h h0
structure BndOk (ks : List Knd) (p : List Bnd) (b : Bnd) : Prop where
  nm : nameE b.name = 0
  new : bFind p b.name < 0
  src : 0 ≤ kFind ks b.src
  dst : 0 ≤ kFind ks b.dst
  rng : ¬ rngB b
theorem bndE_zero {ks : List Knd} {p : List Bnd} {b : Bnd} (h : bndE ks p b = 0) : BndOk ks p b := by
  unfold bndE at h
  by_cases h1 : nameE b.name = 0
  · rw [if_pos h1] at h
    by_cases h2 : 0 ≤ bFind p b.name
    · rw [if_pos h2] at h; omega
    rw [if_neg h2] at h
    by_cases h3 : kFind ks b.src < 0 ∨ kFind ks b.dst < 0
    · rw [if_pos h3] at h; omega
    rw [if_neg h3] at h
    by_cases h4 : rngB b
    · rw [if_pos h4] at h; omega
    exact ⟨h1, by omega, by omega, by omega, h4⟩
  · rw [if_neg h1] at h; exact absurd h h1
/-- A schema that is right. -/
structure ScmOk (s : Scm) : Prop where
  r : Right s.kinds
  bl : s.bonds.length ≤ 12
  b : ∀ (i : Nat) b, s.bonds[i]? = some b → BndOk s.kinds (s.bonds.take i) b
theorem scmE_zero {s : Scm} (h : (scmE s).2 = 0) : ScmOk s := by
  unfold scmE at h
  split at h
  · rename_i h0
    split at h
    · simp at h
    · exact ⟨checkE_zero h0, by omega, fun i b hb => bndE_zero (by simpa using bndsE_zero h i b hb)⟩
  · rename_i h0; exact absurd h h0
/-! ### A change of a schema -/
def bz : Bnd := ⟨.empty, .empty, .empty, 0, 0⟩
def fz : Fld := ⟨.empty, 0, false, false⟩
open Go

def typL (ty : Int) : List UInt8 := if ty = 1 then [105, 110, 116] else if ty = 2 then [98, 111, 111, 108] else if ty = 3 then [116, 101, 120, 116] else []
def sgnL (f : Fld) : List UInt8 := if f.key = true then [42] else if f.must = true then [33] else []
def fldT (f : Fld) : List UInt8 := f.name.data.toList ++ [58] ++ typL f.ty ++ sgnL f
def ofsW (k : Knd) : List (List UInt8) := if k.ofs.length = 0 then [] else [[111, 102], Lib.join (k.ofs.map (·.data.toList)) [44]]
def kndWords (k : Knd) : List (List UInt8) := [[107, 105, 110, 100], k.name.data.toList] ++ ofsW k ++ k.fields.map fldT
def kndT (k : Knd) : List UInt8 := Lib.join (kndWords k) [32] ++ [10]
def topL (b : Bnd) : List UInt8 := if 0 ≤ b.mx then Lib.itoa b.mx else [97, 110, 121]
def bndWords (b : Bnd) : List (List UInt8) := [[98, 111, 110, 100], b.name.data.toList, b.src.data.toList, b.dst.data.toList, Lib.itoa b.mn, topL b]
def bndT (b : Bnd) : List UInt8 := Lib.join (bndWords b) [32] ++ [10]
def scmT (s : Scm) : List UInt8 := s.kinds.flatMap kndT ++ s.bonds.flatMap bndT
theorem flds_ok : ∀ {l : List Fld} {p : Option Fld}, fldsE p l = 0 → ∀ f ∈ l, ∃ q, fldE q f = 0
  | [], _, _, f, hf => by cases hf
  | x :: r, p, h, f, hf => by
    rw [fldsE] at h
    split at h
    · rename_i h0
      rcases List.mem_cons.1 hf with rfl | hf
      · exact ⟨_, h0⟩
      · exact flds_ok h f hf
    · rename_i h0; exact absurd h h0
theorem flat_lit {l : List UInt8} (h : l.all (fun c => decide (c ≠ 10)) = true) : flatB l := fun c hc => of_decide_eq_true (List.all_eq_true.1 h c hc)
theorem flat_typ (ty : Int) : flatB (typL ty) := by
  unfold typL
  split
  · exact flat_lit (by decide)
  · split
    · exact flat_lit (by decide)
    · split
      · exact flat_lit (by decide)
      · exact .nil
theorem flat_sgn (f : Fld) : flatB (sgnL f) := by
  unfold sgnL
  split
  · exact flat_lit (by decide)
  · split
    · exact flat_lit (by decide)
    · exact .nil
/-- A kind that is found has a right name. -/
theorem found_name {l : List Knd} (h : Right l) {s : ByteArray} (hs : 0 ≤ kFind l s) : nameE s = 0 := by
  obtain ⟨i, k, _, h2, h3, _⟩ := idxI_nonneg hs
  have := (h.one i k h2).nm
  rw [of_decide_eq_true h3] at this
  exact this
theorem fld_parts {q : Option Fld} {f : Fld} (h : fldE q f = 0) : nameE f.name = 0 ∧ tyB f.ty = true := by
  unfold fldE at h
  split at h
  · rename_i h1
    split at h
    · rename_i h2; exact ⟨h1, h2⟩
    · cases h
  · rename_i h1; exact absurd h h1
theorem typ_len (ty : Int) : (typL ty).length ≤ 4 := by
  unfold typL
  split
  · show (3 : Nat) ≤ 4; omega
  · split
    · show (4 : Nat) ≤ 4; omega
    · split
      · show (4 : Nat) ≤ 4; omega
      · show (0 : Nat) ≤ 4; omega
theorem sgn_len (f : Fld) : (sgnL f).length ≤ 1 := by
  unfold sgnL
  split
  · show (1 : Nat) ≤ 1; omega
  · split
    · show (1 : Nat) ≤ 1; omega
    · show (0 : Nat) ≤ 1; omega
theorem flat_fld {q : Option Fld} {f : Fld} (h : fldE q f = 0) : flatB (fldT f) ∧ (fldT f).length ≤ 14 := by
  have h1 := (fld_parts h).1
  have k1 := name_len h1
  have k2 := typ_len f.ty
  have k3 := sgn_len f
  refine ⟨(((flat_name h1).append (flat_lit (by decide))).append (flat_typ _)).append (flat_sgn _), ?_⟩
  unfold fldT
  simp only [List.length_append, List.length_cons, List.length_nil]
  omega
/-- The words of a kind: none ends a line, and how long they are. -/
theorem knd_words {l : List Knd} (h : Right l) {k : Knd} (hk : k ∈ l) : (∀ x ∈ kndWords k, flatB x ∧ x.length ≤ 36) ∧ (kndWords k).length ≤ 12 := by
  obtain ⟨i, hi⟩ := List.mem_iff_getElem?.1 hk
  have ho := h.one i k hi
  have hn := ho.nm
  have k1 := name_len hn
  have hofs : ∀ x ∈ k.ofs.map (·.data.toList), flatB x ∧ x.length ≤ 8 := fun x hx => by
    obtain ⟨s, hs, rfl⟩ := List.mem_map.1 hx
    have h0 : 0 ≤ kFind (l.take i) s := ofsE_zero ho.ofs s hs
    obtain ⟨j, d, _, h2, h3, _⟩ := kFind_pos h0
    have hj : j < i := by have := (List.getElem?_eq_some_iff.1 h2).1; rw [List.length_take] at this; omega
    rw [List.getElem?_take, if_pos hj] at h2
    have hnm := (h.one j d h2).nm
    rw [h3] at hnm
    exact ⟨flat_name hnm, name_len hnm⟩
  have hjoin : flatB (Lib.join (k.ofs.map (·.data.toList)) [44]) := flat_join _ _ (fun x hx => (hofs x hx).1) (flat_lit (by decide))
  have hjl : (Lib.join (k.ofs.map (·.data.toList)) [44]).length ≤ 36 := by
    have h1 := join_len (k.ofs.map (·.data.toList)) [44] 8 fun x hx => (hofs x hx).2
    rw [List.length_map] at h1
    have h2 : k.ofs.length * (8 + ([44] : List UInt8).length) ≤ 4 * 9 := Nat.mul_le_mul ho.ofl (Nat.le_refl _)
    omega
  constructor
  · intro x hx
    unfold kndWords at hx
    rcases List.mem_append.1 hx with hx | hx
    · rcases List.mem_append.1 hx with hx | hx
      · rcases List.mem_cons.1 hx with rfl | hx
        · exact ⟨flat_lit (by decide), by show (4 : Nat) ≤ 36; omega⟩
        · rcases List.mem_cons.1 hx with rfl | hx
          · exact ⟨flat_name hn, by omega⟩
          · cases hx
      · unfold ofsW at hx
        split at hx
        · cases hx
        · rcases List.mem_cons.1 hx with rfl | hx
          · exact ⟨flat_lit (by decide), by show (2 : Nat) ≤ 36; omega⟩
          · rcases List.mem_cons.1 hx with rfl | hx
            · exact ⟨hjoin, hjl⟩
            · cases hx
    · obtain ⟨f, hf, rfl⟩ := List.mem_map.1 hx
      obtain ⟨q, hq⟩ := flds_ok ho.fls f hf
      obtain ⟨k2, k3⟩ := flat_fld hq
      exact ⟨k2, by omega⟩
  · have := ho.fll
    unfold kndWords ofsW
    split <;> simp <;> omega
theorem line_knd {l : List Knd} (h : Right l) {k : Knd} (hk : k ∈ l) : (kndT k).count 10 = 1 ∧ (kndT k).length ≤ 450 := by
  obtain ⟨h1, h2⟩ := knd_words h hk
  have hf : flatB (Lib.join (kndWords k) [32]) := flat_join _ _ (fun x hx => (h1 x hx).1) (flat_lit (by decide))
  have hl := join_len (kndWords k) [32] 36 fun x hx => (h1 x hx).2
  have h3 : (kndWords k).length * (36 + ([32] : List UInt8).length) ≤ 12 * 37 := Nat.mul_le_mul h2 (Nat.le_refl _)
  unfold kndT
  constructor
  · rw [List.count_append, hf.count]; rfl
  · rw [List.length_append]
    have : ([10] : List UInt8).length = 1 := rfl
    omega
theorem flat_top {b : Bnd} (h : ¬ rngB b) : flatB (topL b) ∧ (topL b).length ≤ 10 := by
  unfold topL
  unfold rngB at h
  split
  · exact ⟨flat_itoa _, (itoa_small (by omega) (by omega)).2⟩
  · exact ⟨flat_lit (by decide), by show (3 : Nat) ≤ 10; omega⟩
theorem bnd_words {s : Scm} (h : ScmOk s) {b : Bnd} (hb : b ∈ s.bonds) : ∀ x ∈ bndWords b, flatB x ∧ x.length ≤ 10 := by
  obtain ⟨i, hi⟩ := List.mem_iff_getElem?.1 hb
  have ho := h.b i b hi
  have hs := found_name h.r ho.src
  have hd := found_name h.r ho.dst
  have hr := ho.rng
  have hm : (Lib.itoa b.mn).length ≤ 10 := by
    unfold rngB at hr
    exact (itoa_small (by omega) (by omega)).2
  intro x hx
  unfold bndWords at hx
  simp only [List.mem_cons, List.not_mem_nil, or_false] at hx
  rcases hx with rfl | rfl | rfl | rfl | rfl | rfl
  · exact ⟨flat_lit (by decide), by show (4 : Nat) ≤ 10; omega⟩
  · exact ⟨flat_name ho.nm, by have := name_len ho.nm; omega⟩
  · exact ⟨flat_name hs, by have := name_len hs; omega⟩
  · exact ⟨flat_name hd, by have := name_len hd; omega⟩
  · exact ⟨flat_itoa _, hm⟩
  · exact flat_top hr
theorem line_bnd {s : Scm} (h : ScmOk s) {b : Bnd} (hb : b ∈ s.bonds) : (bndT b).count 10 = 1 ∧ (bndT b).length ≤ 450 := by
  have h1 := bnd_words h hb
  have hf : flatB (Lib.join (bndWords b) [32]) := flat_join _ _ (fun x hx => (h1 x hx).1) (flat_lit (by decide))
  have hl := join_len (bndWords b) [32] 10 fun x hx => (h1 x hx).2
  have h3 : (bndWords b).length * (10 + ([32] : List UInt8).length) = 66 := rfl
  unfold bndT
  constructor
  · rw [List.count_append, hf.count]; rfl
  · rw [List.length_append]
    have : ([10] : List UInt8).length = 1 := rfl
    omega
end Go.Proofs.YtfeccicogcnhcaaGreatDoor
