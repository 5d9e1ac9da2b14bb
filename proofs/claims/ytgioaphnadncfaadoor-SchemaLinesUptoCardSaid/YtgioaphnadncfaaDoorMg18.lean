/- Parts: SchA. -/
import Derived.Test.YtgioaphnadncfaaDoorMg17
/- Contracts: schema.find, schema.Find, schema.bond, schema.Check, schema.Right. -/
namespace Go.Proofs.YtgioaphnadncfaaDoor
open Go Go.RowKit



def bndV (_ : World) (d : Bnd) (u : Value) : Prop := u = .agg #[.string d.name, .string d.src, .string d.dst, .int .i64 d.mn, .int .i64 d.mx]
set_option maxHeartbeats 400000 in
theorem idx_bnds (g : Nat) (caps : Array Value) (eg : ∀ args w, (callFunc g args).run Tryd.prog w = .ok (.enter g args) w) (p : Bnd → Bool) (l : List (Bnd)) (v : Value) (w : World) (hv : Sl bndL w v l)
    (hp : PredB Tryd.prog g caps bndV p w) :
    Calls Tryd.prog 86 #[v, .func (.func g) #[] caps] w fun e w' => e = .returned (.int .i64 (idxI p l)) ∧ Below w.heap.size w w' := by
  obtain ⟨A, c, rfl, hlc, hcm⟩ := hv.form
  unfold maxLen at hcm
  go_enter Tryd.func86, Tryd.ntmps86
  go_wp2_with fail
  go_loopw [8] (fun i wr => ∃ k : Nat, k ≤ l.length ∧ i = .int .i64 k ∧ Below w.heap.size w wr ∧ Hid (∀ j x, j < k → l[j]? = some x → p x = false)) (fun i _ => l.length - (intOf i).toNat)
  case atStart => exact ⟨0, Nat.zero_le _, rfl, Below.refl _ _, fun j x hj => absurd hj (Nat.not_lt_zero _)⟩
  case round =>
    obtain ⟨k, hk, rfl, hb, HA⟩ := hrel
    by_cases hlt : k < l.length
    · obtain ⟨d, hd⟩ : ∃ d, l[k]? = some d := ⟨_, List.getElem?_eq_getElem hlt⟩
      obtain ⟨b, o, rfl, hok, c0, c1, c2, c3, c4⟩ := bnd_at (hv.below hb) hd
      have hcall := hp d (.agg #[.string d.name, .string d.src, .string d.dst, .int .i64 d.mn, .int .i64 d.mx]) wr hb rfl
      have HD : Hid (l[k]? = some d) := hd
      clear hd hp hv
      cases hq : p d with
      | true =>
        rw [hq] at hcall
        have HQ : Hid (p d = true) := hq
        clear hq
        go_wp2_with (go_at_fn g; refine hcall.mono ?_; rintro e w' ⟨rfl, hb2⟩)
        go_ret
        exact ⟨ret_int (idxI_hit HA.out HD.out HQ.out).symm, hb.trans (hb2.mono hb.size)⟩
      | false =>
        rw [hq] at hcall
        have HQ : Hid (p d = false) := hq
        clear hq
        go_wp2_with (go_at_fn g; refine hcall.mono ?_; rintro e w' ⟨rfl, hb2⟩)
        go_roundw
        case rel => exact ⟨k + 1, by omega, by go_num, hb.trans (hb2.mono hb.size), miss_step HA.out HD.out HQ.out⟩
        case measure => simp [intOf]; omega
    · have hkl : k = l.length := by omega
      subst hkl
      clear hp hv
      go_wp2_with fail
      go_ret
      exact ⟨ret_int (idxI_miss HA.out).symm, hb⟩
theorem bFind1_any (d : Bnd) (name : ByteArray) (u : Value) (bk : Nat) (w : World) (hu : bndV w d u) (hc : w.cell? ⟨bk, 0, none⟩ = some (.string name)) :
    Calls Tryd.prog 87 #[u, .pointer (some ⟨bk, 0, none⟩)] w fun e w' => e = .returned (.bool (decide (d.name = name))) ∧ Below w.heap.size w w' := by
  obtain rfl : u = _ := hu
  have hlt := World.block_lt_of_cell? _ _ hc
  by_cases hq : d.name = name
  · have hd : decide (d.name = name) = true := decide_eq_true hq
    rw [hd]
    have hqb : (d.name.toList == name.toList) = true := by rw [bytes_beq]; exact hd
    clear hq hd
    go_enter Tryd.func87, Tryd.ntmps87
    go_wp2_with fail
    go_ret
    exact ⟨rfl, (Below.refl _ _).alloc (Nat.le_refl _) _⟩
  · have hd : decide (d.name = name) = false := decide_eq_false hq
    rw [hd]
    have hqb : (d.name.toList == name.toList) = false := by rw [bytes_beq]; exact hd
    clear hq hd
    go_enter Tryd.func87, Tryd.ntmps87
    go_wp2_with fail
    go_ret
    exact ⟨rfl, (Below.refl _ _).alloc (Nat.le_refl _) _⟩
/-- Where a bond of a name is. -/
def bFind (l : List Bnd) (name : ByteArray) : Int := idxI (fun b => decide (b.name = name)) l
theorem bFind_any (l : List Bnd) (name : ByteArray) (v : Value) (w : World) (hv : Sl bndL w v l) :
    Calls Tryd.prog 67 #[v, .string name] w fun e w' => e = .returned (.int .i64 (bFind l name)) ∧ Below w.heap.size w w' := by
  have hb0 : Below w.heap.size w (w.alloc (.cells #[.string name] 9)) := (Below.refl _ _).alloc (Nat.le_refl _) _
  have h1 := idx_bnds 87 #[.pointer (some ⟨w.heap.size, 0, none⟩)] (by intro args w; kernel_rfl) (fun k => decide (k.name = name)) l v _ (hv.below hb0)
    (fun d u wx hx hu => bFind1_any d name u w.heap.size wx hu (cell_below hx (by rw [World.cell?_alloc_at _ _ _ _ rfl]; rfl)))
  obtain ⟨A, c, rfl, _, _⟩ := hv.form
  clear hv
  go_enter Tryd.func67, Tryd.ntmps67
  go_wp2_with fail
  refine h1.mono ?_
  rintro e w2 ⟨rfl, hb2⟩
  go_wp2_with fail
  go_ret
  exact ⟨rfl, hb0.trans (hb2.mono (by simp))⟩
def rngB (b : Bnd) : Prop := b.mn < 0 ∨ 20 < b.mn ∨ (b.mx ≠ -1 ∧ (b.mx < b.mn ∨ 20 < b.mx))
instance (b : Bnd) : Decidable (rngB b) := by unfold rngB; infer_instance
/-- What is wrong with a bond, behind those that are right. -/
def bndE (ks : List Knd) (p : List Bnd) (b : Bnd) : Int :=
  if nameE b.name = 0 then (if 0 ≤ bFind p b.name then 7 else if kFind ks b.src < 0 ∨ kFind ks b.dst < 0 then 5 else if rngB b then 1 else 0) else nameE b.name
def bndsE (ks : List Knd) : List Bnd → List Bnd → ByteArray × Int
  | _, [] => (.empty, 0)
  | p, b :: r => if bndE ks p b = 0 then bndsE ks (p ++ [b]) r else (b.name, bndE ks p b)
/-- The fault of a schema, and with whom. -/
def scmE (s : Scm) : ByteArray × Int := if (checkE s.kinds).2 = 0 then (if 12 < s.bonds.length then (.empty, 4) else bndsE s.kinds [] s.bonds) else checkE s.kinds
theorem cell_box5 (w : World) (a b c d e : Value) (t : TypeId) : (w.alloc (.cells #[a, b, c, d, e] t)).cell? ⟨w.heap.size, 0, none⟩ = some a ∧ (w.alloc (.cells #[a, b, c, d, e] t)).cell? ⟨w.heap.size, 1, none⟩ = some b ∧
    (w.alloc (.cells #[a, b, c, d, e] t)).cell? ⟨w.heap.size, 2, none⟩ = some c ∧ (w.alloc (.cells #[a, b, c, d, e] t)).cell? ⟨w.heap.size, 3, none⟩ = some d ∧ (w.alloc (.cells #[a, b, c, d, e] t)).cell? ⟨w.heap.size, 4, none⟩ = some e :=
  ⟨by rw [World.cell?_alloc_at _ _ _ _ rfl]; rfl, by rw [World.cell?_alloc_at _ _ _ _ rfl]; rfl, by rw [World.cell?_alloc_at _ _ _ _ rfl]; rfl, by rw [World.cell?_alloc_at _ _ _ _ rfl]; rfl, by rw [World.cell?_alloc_at _ _ _ _ rfl]; rfl⟩
set_option maxRecDepth 100000 in
set_option maxHeartbeats 8000000 in
theorem bond_any (s : Scm) (i : Nat) (d : Bnd) (vk vb : Value) (w : World) (hv : ScmR w vk vb s) (hd : s.bonds[i]? = some d) :
    Calls Tryd.prog 49 #[.agg #[vk, vb], .int .i64 i] w fun e w' => e = .returned (errV (bndE s.kinds (s.bonds.take i) d)) ∧ Below w.heap.size w w' := by
  obtain ⟨Ak, ck, rfl, _, _⟩ := hv.1.form
  obtain ⟨Ab, cb, rfl, hlc, hcm⟩ := hv.2.form
  obtain ⟨b, o, rfl, hok, c0, c1, c2, c3, c4⟩ := bnd_at hv.2 hd
  have hil := (List.getElem?_eq_some_iff.1 hd).1
  have hb0 : Below w.heap.size w (w.alloc (.cells #[.slice Ak s.kinds.length ck, .slice (some ⟨b, o, none⟩) s.bonds.length cb] 25)) := (Below.refl _ _).alloc (Nat.le_refl _) _
  obtain ⟨x0, x1⟩ := cell_box2 w (.slice Ak s.kinds.length ck) (.slice (some ⟨b, o, none⟩) s.bonds.length cb) 25
  have HV0 := Lib.hid (show ScmR _ _ _ s from ⟨hv.1.below hb0, hv.2.below hb0⟩)
  have d0 := cell_below hb0 c0
  have d1 := cell_below hb0 c1
  have d2 := cell_below hb0 c2
  have d3 := cell_below hb0 c3
  have d4 := cell_below hb0 c4
  have HE : Hid (bndE s.kinds (s.bonds.take i) d = if nameE d.name = 0 then (if 0 ≤ bFind (s.bonds.take i) d.name then 7 else if kFind s.kinds d.src < 0 ∨ kFind s.kinds d.dst < 0 then 5 else if rngB d then 1 else 0) else nameE d.name) := rfl
  have hw0 := hb0.size
  have hil' : (i : Int) < (s.bonds.length : Int) := by omega
  clear hv c0 c1 c2 c3 c4 hd
  have hsz0 : (w.alloc (.cells #[.slice Ak s.kinds.length ck, .slice (some ⟨b, o, none⟩) s.bonds.length cb] 25)).heap.size = w.heap.size + 1 := by simp
  go_enter Tryd.func49, Tryd.ntmps49
  go_wp2_with fail
  generalize w.alloc (.cells #[.slice Ak s.kinds.length ck, .slice (some ⟨b, o, none⟩) s.bonds.length cb] 25) = w0 at *
  have hb1 : Below w0.heap.size w0 (w0.alloc (.cells #[.string d.name, .string d.src, .string d.dst, .int .i64 d.mn, .int .i64 d.mx] 63)) := (Below.refl _ _).alloc (Nat.le_refl _) _
  obtain ⟨z0, z1, z2, z3, z4⟩ := cell_box5 w0 (.string d.name) (.string d.src) (.string d.dst) (.int .i64 d.mn) (.int .i64 d.mx) 63
  rw [hsz0] at z0 z1 z2 z3 z4
  have x0 := cell_below hb1 x0
  have x1 := cell_below hb1 x1
  have hw1 := hb1.size
  generalize w0.alloc (.cells #[.string d.name, .string d.src, .string d.dst, .int .i64 d.mn, .int .i64 d.mx] 63) = w1 at *
  refine (name_any d.name w1 hok.1).mono ?_
  rintro e w2 ⟨rfl, hb2⟩
  have hb02 := hb1.trans (hb2.mono hw1)
  have hB2 := hb0.trans (hb02.mono hw0)
  have HV2 := Lib.hid (show ScmR w2 _ _ s from ⟨HV0.out.1.below hb02, HV0.out.2.below hb02⟩)
  have x0 := cell_below hb2 x0
  have x1 := cell_below hb2 x1
  have z0 := cell_below hb2 z0
  have z1 := cell_below hb2 z1
  have z2 := cell_below hb2 z2
  have z3 := cell_below hb2 z3
  have z4 := cell_below hb2 z4
  have hw2 := hB2.size
  clear d0 d1 d2 d3 d4 hb02 hb2 hb1
  by_cases he : nameE d.name = 0
  case neg =>
    have HF : Hid (errV (bndE s.kinds (s.bonds.take i) d) = .iface 76 (.int .i64 (nameE d.name))) := by unfold Hid; rw [HE.out, if_neg he]; exact errV_some he
    rw [errV_some he]
    clear he HE
    go_wp2_with fail
    go_ret
    exact ⟨by rw [HF.out]; rfl, hB2⟩
  have HE2 : Hid (bndE s.kinds (s.bonds.take i) d = if 0 ≤ bFind (s.bonds.take i) d.name then 7 else if kFind s.kinds d.src < 0 ∨ kFind s.kinds d.dst < 0 then 5 else if rngB d then 1 else 0) := by unfold Hid; rw [HE.out, if_pos he]
  rw [errV_zero he]
  have hic : (i : Int) ≤ (cb : Int) := by omega
  clear he HE
  go_wp2_with fail
  refine wp_mid_k 6 _ rfl rfl (by kernel_rfl) (by kernel_rfl) ?_
  simp only [List.take_succ_cons, List.take_zero, List.drop_succ_cons, List.drop_zero]
  repeat (go_big_quiet_step (fail))
  refine wpQuiet_nil ?_
  intro _ hw'
  obtain ⟨nq, hw''⟩ := hw'
  subst hw''
  intro K hK
  have hf := bFind_any (s.bonds.take i) d.name (.slice (some ⟨b, o, none⟩) i cb) (w2.drewN nq) ((Sl.take HV2.out.2 (by omega)).below (below_drewN (Below.refl _ _) nq))
  generalize bFind (s.bonds.take i) d.name = q at *
  go_wp2_with fail
  refine hf.mono ?_
  clear hf
  rintro e w3 ⟨rfl, hb3⟩
  have hB3' := (below_drewN (Below.refl w2.heap.size w2) nq).trans hb3
  have x0 := cell_below hB3' x0
  have x1 := cell_below hB3' x1
  have z0 := cell_below hB3' z0
  have z1 := cell_below hB3' z1
  have z2 := cell_below hB3' z2
  have z3 := cell_below hB3' z3
  have z4 := cell_below hB3' z4
  have HV3 := Lib.hid (show Sl kndL w3 _ s.kinds from HV2.out.1.below hB3')
  have hB3 := hB2.trans (hB3'.mono hw2)
  clear hb3 hB3' HV2 hB2
  refine hK _ _ ?_
  repeat (go_big_quiet_step (fail))
  refine wpQuiet_nil ?_
  intro _ hw'
  obtain ⟨nq2, hw''⟩ := hw'
  subst hw''
  clear hK
  by_cases hq : 0 ≤ q
  · have HF : Hid (bndE s.kinds (s.bonds.take i) d = 7) := by unfold Hid; rw [HE2.out, if_pos hq]
    clear HE2
    go_wp2_with fail
    go_ret
    exact ⟨by rw [HF.out]; rfl, below_drewN hB3 _⟩
  have hq' : q < 0 := by omega
  have HE3 : Hid (bndE s.kinds (s.bonds.take i) d = if kFind s.kinds d.src < 0 ∨ kFind s.kinds d.dst < 0 then 5 else if rngB d then 1 else 0) := by unfold Hid; rw [HE2.out, if_neg hq]
  have hB4 := below_drewN hB3 nq2
  have HV4 := Lib.hid (HV3.out.below (below_drewN (Below.refl w3.heap.size w3) nq2))
  have hk1 := kFind_any s.kinds d.src _ _ HV4.out
  clear HE2 hq HV3 hB3
  have hdw := below_drewN (Below.refl w3.heap.size w3) nq2
  have x0 := cell_below hdw x0
  have x1 := cell_below hdw x1
  have z0 := cell_below hdw z0
  have z1 := cell_below hdw z1
  have z2 := cell_below hdw z2
  have z3 := cell_below hdw z3
  have z4 := cell_below hdw z4
  clear hdw
  generalize w3.drewN nq2 = w4 at *
  generalize kFind s.kinds d.src = a at *
  go_wp2_with fail
  refine hk1.mono ?_
  clear hk1
  rintro e w5 ⟨rfl, hb5⟩
  have x0 := cell_below hb5 x0
  have x1 := cell_below hb5 x1
  have z2 := cell_below hb5 z2
  have z3 := cell_below hb5 z3
  have z4 := cell_below hb5 z4
  have hB5 := hB4.trans (hb5.mono hB4.size)
  by_cases ha : a < 0
  · have HF : Hid (bndE s.kinds (s.bonds.take i) d = 5) := by unfold Hid; rw [HE3.out, if_pos (.inl ha)]
    clear HE3
    go_wp2_with fail
    go_ret
    exact ⟨by rw [HF.out]; rfl, hB5⟩
  have ha' : 0 ≤ a := by omega
  have hk2 := kFind_any s.kinds d.dst _ _ (HV4.out.below hb5)
  generalize kFind s.kinds d.dst = c at *
  go_wp2_with fail
  refine hk2.mono ?_
  clear hk2
  rintro e w6 ⟨rfl, hb6⟩
  have z3 := cell_below hb6 z3
  have z4 := cell_below hb6 z4
  have hB6 := hB5.trans (hb6.mono hB5.size)
  clear x0 x1 z0 z1 z2 hb5 hb6 hB5 hB4 HV4
  by_cases hc : c < 0
  · have HF : Hid (bndE s.kinds (s.bonds.take i) d = 5) := by unfold Hid; rw [HE3.out, if_pos (.inr hc)]
    clear HE3
    go_wp2_with fail
    go_ret
    exact ⟨by rw [HF.out]; rfl, hB6⟩
  have hc' : 0 ≤ c := by omega
  have HE4 : Hid (bndE s.kinds (s.bonds.take i) d = if rngB d then 1 else 0) := by unfold Hid; rw [HE3.out, if_neg (by omega)]
  have HRB : Hid (rngB d ↔ (d.mn < 0 ∨ 20 < d.mn ∨ (d.mx ≠ -1 ∧ (d.mx < d.mn ∨ 20 < d.mx)))) := Iff.rfl
  clear HE3 ha hc
  generalize d.mn = mn at *
  generalize d.mx = mx at *
  by_cases hr : rngB d
  · have HF : Hid (bndE s.kinds (s.bonds.take i) d = 1) := by unfold Hid; rw [HE4.out, if_pos hr]
    have hr2 := HRB.out.1 hr
    clear HE4 HRB hr
    by_cases e1 : mn < 0
    · clear hr2
      go_wp2_with fail
      go_ret
      exact ⟨by rw [HF.out]; rfl, hB6⟩
    have e1' : 0 ≤ mn := by omega
    by_cases e2 : 20 < mn
    · clear hr2 e1
      go_wp2_with fail
      go_ret
      exact ⟨by rw [HF.out]; rfl, hB6⟩
    have e2' : mn ≤ 20 := by omega
    have e3 : (mx != -1) = true := bne_iff_ne.2 (by omega)
    have e3' : ¬ mx = -1 := by omega
    by_cases e4 : mx < mn
    · clear hr2 e1 e2
      go_wp2_with fail
      go_ret
      exact ⟨by rw [HF.out]; rfl, hB6⟩
    have e4' : mn ≤ mx := by omega
    have e5 : 20 < mx := by omega
    clear hr2 e1 e2 e4
    go_wp2_with fail
    go_ret
    exact ⟨by rw [HF.out]; rfl, hB6⟩
  · have HF : Hid (bndE s.kinds (s.bonds.take i) d = 0) := by unfold Hid; rw [HE4.out, if_neg hr]
    have hr2 : ¬ (mn < 0 ∨ 20 < mn ∨ (mx ≠ -1 ∧ (mx < mn ∨ 20 < mx))) := fun h => hr (HRB.out.2 h)
    have e1' : 0 ≤ mn := by omega
    have e2' : mn ≤ 20 := by omega
    clear HE4 HRB hr
    by_cases e3 : mx = -1
    · subst e3
      clear hr2
      go_wp2_with fail
      go_ret
      exact ⟨by rw [HF.out]; rfl, hB6⟩
    have e3' : (mx != -1) = true := bne_iff_ne.2 e3
    have e4' : mn ≤ mx := by omega
    have e5' : mx ≤ 20 := by omega
    clear hr2
    go_wp2_with fail
    go_ret
    exact ⟨by rw [HF.out]; rfl, hB6⟩
end Go.Proofs.YtgioaphnadncfaaDoor
