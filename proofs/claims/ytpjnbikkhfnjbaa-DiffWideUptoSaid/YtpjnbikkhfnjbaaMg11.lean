/- Parts: SchA, SchB, GrC, TieP, Same. -/
import Derived.Test.YtpjnbikkhfnjbaaMg10
import Derived.Test.YtpjnbikkhfnjbaaMg07
import Derived.Test.YtpjnbikkhfnjbaaMg09
/- Contracts: schema.find, schema.Find, schema.bond, schema.Check, schema.Right. -/
namespace Go.Proofs.Ytpjnbikkhfnjbaa
open Go Go.RowKit



def bndAg (d : Bnd) : Value := .agg #[.string d.name, .string d.src, .string d.dst, .int .i64 d.mn, .int .i64 d.mx]
def bndV (_ : World) (d : Bnd) (u : Value) : Prop := u = .agg #[.string d.name, .string d.src, .string d.dst, .int .i64 d.mn, .int .i64 d.mx]
set_option maxHeartbeats 400000 in
theorem idx_bnds (g : Nat) (caps : Array Value) (eg : ∀ args w, (callFunc g args).run Try.prog w = .ok (.enter g args) w) (p : Bnd → Bool) (l : List (Bnd)) (v : Value) (w : World) (hv : Sl bndL w v l)
    (hp : PredB Try.prog g caps bndV p w) :
    Calls Try.prog 24 #[v, .func (.func g) #[] caps] w fun e w' => e = .returned (.int .i64 (idxI p l)) ∧ Below w.heap.size w w' := by
  obtain ⟨A, c, rfl, hlc, hcm⟩ := hv.form
  unfold maxLen at hcm
  go_enter Try.func24, Try.ntmps24
  go_wp2_with fail
  go_loopw [8] (fun i wr => ∃ k : Nat, k ≤ l.length ∧ i = .int .i64 k ∧ Below w.heap.size w wr ∧ Hid (∀ j x, j < k → l[j]? = some x → p x = false)) (fun i _ => l.length - (intOf i).toNat)
  case atStart => exact ⟨0, Nat.zero_le _, rfl, Below.refl _ _, fun j x hj => absurd hj (Nat.not_lt_zero _)⟩
  case round =>
    obtain ⟨k, hk, rfl, hb, HA⟩ := hrel
    by_cases hlt : k < l.length
    · obtain ⟨d, hd⟩ : ∃ d, l[k]? = some d := ⟨_, List.getElem?_eq_getElem hlt⟩
      obtain ⟨b, o, rfl, hok, c0, c1, c2, c3, c4⟩ := bnd_at (hv.below hb) hd
      have hcall := hp d (.agg #[.string d.name, .string d.src, .string d.dst, .int .i64 d.mn, .int .i64 d.mx]) wr hb rfl
      have HD : Hid (l[k]? = some d) := hd
      clear hd hp hv
      cases hq : p d with
      | true =>
        rw [hq] at hcall
        have HQ : Hid (p d = true) := hq
        clear hq
        go_wp2_with (go_at_fn g; refine hcall.mono ?_; rintro e w' ⟨rfl, hb2⟩)
        go_ret
        exact ⟨ret_int (idxI_hit HA.out HD.out HQ.out).symm, hb.trans (hb2.mono hb.size)⟩
      | false =>
        rw [hq] at hcall
        have HQ : Hid (p d = false) := hq
        clear hq
        go_wp2_with (go_at_fn g; refine hcall.mono ?_; rintro e w' ⟨rfl, hb2⟩)
        go_roundw
        case rel => exact ⟨k + 1, by omega, by go_num, hb.trans (hb2.mono hb.size), miss_step HA.out HD.out HQ.out⟩
        case measure => simp [intOf]; omega
    · have hkl : k = l.length := by omega
      subst hkl
      clear hp hv
      go_wp2_with fail
      go_ret
      exact ⟨ret_int (idxI_miss HA.out).symm, hb⟩
theorem bFind1_any (d : Bnd) (name : ByteArray) (u : Value) (bk : Nat) (w : World) (hu : bndV w d u) (hc : w.cell? ⟨bk, 0, none⟩ = some (.string name)) :
    Calls Try.prog 28 #[u, .pointer (some ⟨bk, 0, none⟩)] w fun e w' => e = .returned (.bool (decide (d.name = name))) ∧ Below w.heap.size w w' := by
  obtain rfl : u = _ := hu
  have hlt := World.block_lt_of_cell? _ _ hc
  by_cases hq : d.name = name
  · have hd : decide (d.name = name) = true := decide_eq_true hq
    rw [hd]
    have hqb : (d.name.toList == name.toList) = true := by rw [bytes_beq]; exact hd
    clear hq hd
    go_enter Try.func28, Try.ntmps28
    go_wp2_with fail
    go_ret
    exact ⟨rfl, (Below.refl _ _).alloc (Nat.le_refl _) _⟩
  · have hd : decide (d.name = name) = false := decide_eq_false hq
    rw [hd]
    have hqb : (d.name.toList == name.toList) = false := by rw [bytes_beq]; exact hd
    clear hq hd
    go_enter Try.func28, Try.ntmps28
    go_wp2_with fail
    go_ret
    exact ⟨rfl, (Below.refl _ _).alloc (Nat.le_refl _) _⟩
/-- Where a bond of a name is. -/
def bFind (l : List Bnd) (name : ByteArray) : Int := idxI (fun b => decide (b.name = name)) l
theorem bFind_any (l : List Bnd) (name : ByteArray) (v : Value) (w : World) (hv : Sl bndL w v l) :
    Calls Try.prog 23 #[v, .string name] w fun e w' => e = .returned (.int .i64 (bFind l name)) ∧ Below w.heap.size w w' := by
  have hb0 : Below w.heap.size w (w.alloc (.cells #[.string name] 9)) := (Below.refl _ _).alloc (Nat.le_refl _) _
  have h1 := idx_bnds 28 #[.pointer (some ⟨w.heap.size, 0, none⟩)] (by intro args w; kernel_rfl) (fun k => decide (k.name = name)) l v _ (hv.below hb0)
    (fun d u wx hx hu => bFind1_any d name u w.heap.size wx hu (cell_below hx (by rw [World.cell?_alloc_at _ _ _ _ rfl]; rfl)))
  obtain ⟨A, c, rfl, _, _⟩ := hv.form
  clear hv
  go_enter Try.func23, Try.ntmps23
  go_wp2_with fail
  refine h1.mono ?_
  rintro e w2 ⟨rfl, hb2⟩
  go_wp2_with fail
  go_ret
  exact ⟨rfl, hb0.trans (hb2.mono (by simp))⟩
theorem sFind_any (s : Scm) (name : ByteArray) (vk vb : Value) (w : World) (hv : ScmR w vk vb s) :
    Calls Try.prog 10 #[.agg #[vk, vb], .string name] w fun e w' => e = .returned (.int .i64 (bFind s.bonds name)) ∧ Below w.heap.size w w' := by
  have hb0 : Below w.heap.size w (w.alloc (.cells #[vk, vb] 25)) := (Below.refl _ _).alloc (Nat.le_refl _) _
  have h1 := bFind_any s.bonds name vb _ (hv.2.below hb0)
  obtain ⟨A, c, rfl, _, _⟩ := hv.1.form
  obtain ⟨A', c', rfl, _, _⟩ := hv.2.form
  clear hv
  go_enter Try.func10, Try.ntmps10
  go_wp2_with fail
  refine h1.mono ?_
  rintro e w2 ⟨rfl, hb2⟩
  go_wp2_with fail
  go_ret
  exact ⟨rfl, hb0.trans (hb2.mono (by simp))⟩
def rngB (b : Bnd) : Prop := b.mn < 0 ∨ 20 < b.mn ∨ (b.mx ≠ -1 ∧ (b.mx < b.mn ∨ 20 < b.mx))
instance (b : Bnd) : Decidable (rngB b) := by unfold rngB; infer_instance
/-- What is wrong with a bond, behind those that are right. -/
def bndE (ks : List Knd) (p : List Bnd) (b : Bnd) : Int :=
  if nameE b.name = 0 then (if 0 ≤ bFind p b.name then 7 else if kFind ks b.src < 0 ∨ kFind ks b.dst < 0 then 5 else if rngB b then 1 else 0) else nameE b.name
def bndsE (ks : List Knd) : List Bnd → List Bnd → ByteArray × Int
  | _, [] => (.empty, 0)
  | p, b :: r => if bndE ks p b = 0 then bndsE ks (p ++ [b]) r else (b.name, bndE ks p b)
/-- The fault of a schema, and with whom. -/
def scmE (s : Scm) : ByteArray × Int := if (checkE s.kinds).2 = 0 then (if 12 < s.bonds.length then (.empty, 4) else bndsE s.kinds [] s.bonds) else checkE s.kinds
theorem cell_box5 (w : World) (a b c d e : Value) (t : TypeId) : (w.alloc (.cells #[a, b, c, d, e] t)).cell? ⟨w.heap.size, 0, none⟩ = some a ∧ (w.alloc (.cells #[a, b, c, d, e] t)).cell? ⟨w.heap.size, 1, none⟩ = some b ∧
    (w.alloc (.cells #[a, b, c, d, e] t)).cell? ⟨w.heap.size, 2, none⟩ = some c ∧ (w.alloc (.cells #[a, b, c, d, e] t)).cell? ⟨w.heap.size, 3, none⟩ = some d ∧ (w.alloc (.cells #[a, b, c, d, e] t)).cell? ⟨w.heap.size, 4, none⟩ = some e :=
  ⟨by rw [World.cell?_alloc_at _ _ _ _ rfl]; rfl, by rw [World.cell?_alloc_at _ _ _ _ rfl]; rfl, by rw [World.cell?_alloc_at _ _ _ _ rfl]; rfl, by rw [World.cell?_alloc_at _ _ _ _ rfl]; rfl, by rw [World.cell?_alloc_at _ _ _ _ rfl]; rfl⟩
set_option maxRecDepth 100000 in
set_option maxHeartbeats 8000000 in
theorem bond_any (s : Scm) (i : Nat) (d : Bnd) (vk vb : Value) (w : World) (hv : ScmR w vk vb s) (hd : s.bonds[i]? = some d) :
    Calls Try.prog 34 #[.agg #[vk, vb], .int .i64 i] w fun e w' => e = .returned (errV (bndE s.kinds (s.bonds.take i) d)) ∧ Below w.heap.size w w' := by
  obtain ⟨Ak, ck, rfl, _, _⟩ := hv.1.form
  obtain ⟨Ab, cb, rfl, hlc, hcm⟩ := hv.2.form
  obtain ⟨b, o, rfl, hok, c0, c1, c2, c3, c4⟩ := bnd_at hv.2 hd
  have hil := (List.getElem?_eq_some_iff.1 hd).1
  have hb0 : Below w.heap.size w (w.alloc (.cells #[.slice Ak s.kinds.length ck, .slice (some ⟨b, o, none⟩) s.bonds.length cb] 25)) := (Below.refl _ _).alloc (Nat.le_refl _) _
  obtain ⟨x0, x1⟩ := cell_box2 w (.slice Ak s.kinds.length ck) (.slice (some ⟨b, o, none⟩) s.bonds.length cb) 25
  have HV0 := Lib.hid (show ScmR _ _ _ s from ⟨hv.1.below hb0, hv.2.below hb0⟩)
  have d0 := cell_below hb0 c0
  have d1 := cell_below hb0 c1
  have d2 := cell_below hb0 c2
  have d3 := cell_below hb0 c3
  have d4 := cell_below hb0 c4
  have HE : Hid (bndE s.kinds (s.bonds.take i) d = if nameE d.name = 0 then (if 0 ≤ bFind (s.bonds.take i) d.name then 7 else if kFind s.kinds d.src < 0 ∨ kFind s.kinds d.dst < 0 then 5 else if rngB d then 1 else 0) else nameE d.name) := rfl
  have hw0 := hb0.size
  have hil' : (i : Int) < (s.bonds.length : Int) := by omega
  clear hv c0 c1 c2 c3 c4 hd
  have hsz0 : (w.alloc (.cells #[.slice Ak s.kinds.length ck, .slice (some ⟨b, o, none⟩) s.bonds.length cb] 25)).heap.size = w.heap.size + 1 := by simp
  go_enter Try.func34, Try.ntmps34
  go_wp2_with fail
  generalize w.alloc (.cells #[.slice Ak s.kinds.length ck, .slice (some ⟨b, o, none⟩) s.bonds.length cb] 25) = w0 at *
  have hb1 : Below w0.heap.size w0 (w0.alloc (.cells #[.string d.name, .string d.src, .string d.dst, .int .i64 d.mn, .int .i64 d.mx] 47)) := (Below.refl _ _).alloc (Nat.le_refl _) _
  obtain ⟨z0, z1, z2, z3, z4⟩ := cell_box5 w0 (.string d.name) (.string d.src) (.string d.dst) (.int .i64 d.mn) (.int .i64 d.mx) 47
  rw [hsz0] at z0 z1 z2 z3 z4
  have x0 := cell_below hb1 x0
  have x1 := cell_below hb1 x1
  have hw1 := hb1.size
  generalize w0.alloc (.cells #[.string d.name, .string d.src, .string d.dst, .int .i64 d.mn, .int .i64 d.mx] 47) = w1 at *
  refine (name_any d.name w1 hok.1).mono ?_
  rintro e w2 ⟨rfl, hb2⟩
  have hb02 := hb1.trans (hb2.mono hw1)
  have hB2 := hb0.trans (hb02.mono hw0)
  have HV2 := Lib.hid (show ScmR w2 _ _ s from ⟨HV0.out.1.below hb02, HV0.out.2.below hb02⟩)
  have x0 := cell_below hb2 x0
  have x1 := cell_below hb2 x1
  have z0 := cell_below hb2 z0
  have z1 := cell_below hb2 z1
  have z2 := cell_below hb2 z2
  have z3 := cell_below hb2 z3
  have z4 := cell_below hb2 z4
  have hw2 := hB2.size
  clear d0 d1 d2 d3 d4 hb02 hb2 hb1
  by_cases he : nameE d.name = 0
  case neg =>
    have HF : Hid (errV (bndE s.kinds (s.bonds.take i) d) = .iface 83 (.int .i64 (nameE d.name))) := by unfold Hid; rw [HE.out, if_neg he]; exact errV_some he
    rw [errV_some he]
    clear he HE
    go_wp2_with fail
    go_ret
    exact ⟨by rw [HF.out]; rfl, hB2⟩
  have HE2 : Hid (bndE s.kinds (s.bonds.take i) d = if 0 ≤ bFind (s.bonds.take i) d.name then 7 else if kFind s.kinds d.src < 0 ∨ kFind s.kinds d.dst < 0 then 5 else if rngB d then 1 else 0) := by unfold Hid; rw [HE.out, if_pos he]
  rw [errV_zero he]
  have hic : (i : Int) ≤ (cb : Int) := by omega
  clear he HE
  go_wp2_with fail
  refine wp_mid_k 6 _ rfl rfl (by kernel_rfl) (by kernel_rfl) ?_
  simp only [List.take_succ_cons, List.take_zero, List.drop_succ_cons, List.drop_zero]
  repeat (go_big_quiet_step (fail))
  refine wpQuiet_nil ?_
  intro _ hw'
  obtain ⟨nq, hw''⟩ := hw'
  subst hw''
  intro K hK
  have hf := bFind_any (s.bonds.take i) d.name (.slice (some ⟨b, o, none⟩) i cb) (w2.drewN nq) ((Sl.take HV2.out.2 (by omega)).below (below_drewN (Below.refl _ _) nq))
  generalize bFind (s.bonds.take i) d.name = q at *
  go_wp2_with fail
  refine hf.mono ?_
  clear hf
  rintro e w3 ⟨rfl, hb3⟩
  have hB3' := (below_drewN (Below.refl w2.heap.size w2) nq).trans hb3
  have x0 := cell_below hB3' x0
  have x1 := cell_below hB3' x1
  have z0 := cell_below hB3' z0
  have z1 := cell_below hB3' z1
  have z2 := cell_below hB3' z2
  have z3 := cell_below hB3' z3
  have z4 := cell_below hB3' z4
  have HV3 := Lib.hid (show Sl kndL w3 _ s.kinds from HV2.out.1.below hB3')
  have hB3 := hB2.trans (hB3'.mono hw2)
  clear hb3 hB3' HV2 hB2
  refine hK _ _ ?_
  repeat (go_big_quiet_step (fail))
  refine wpQuiet_nil ?_
  intro _ hw'
  obtain ⟨nq2, hw''⟩ := hw'
  subst hw''
  clear hK
  by_cases hq : 0 ≤ q
  · have HF : Hid (bndE s.kinds (s.bonds.take i) d = 7) := by unfold Hid; rw [HE2.out, if_pos hq]
    clear HE2
    go_wp2_with fail
    go_ret
    exact ⟨by rw [HF.out]; rfl, below_drewN hB3 _⟩
  have hq' : q < 0 := by omega
  have HE3 : Hid (bndE s.kinds (s.bonds.take i) d = if kFind s.kinds d.src < 0 ∨ kFind s.kinds d.dst < 0 then 5 else if rngB d then 1 else 0) := by unfold Hid; rw [HE2.out, if_neg hq]
  have hB4 := below_drewN hB3 nq2
  have HV4 := Lib.hid (HV3.out.below (below_drewN (Below.refl w3.heap.size w3) nq2))
  have hk1 := kFind_any s.kinds d.src _ _ HV4.out
  clear HE2 hq HV3 hB3
  have hdw := below_drewN (Below.refl w3.heap.size w3) nq2
  have x0 := cell_below hdw x0
  have x1 := cell_below hdw x1
  have z0 := cell_below hdw z0
  have z1 := cell_below hdw z1
  have z2 := cell_below hdw z2
  have z3 := cell_below hdw z3
  have z4 := cell_below hdw z4
  clear hdw
  generalize w3.drewN nq2 = w4 at *
  generalize kFind s.kinds d.src = a at *
  go_wp2_with fail
  refine hk1.mono ?_
  clear hk1
  rintro e w5 ⟨rfl, hb5⟩
  have x0 := cell_below hb5 x0
  have x1 := cell_below hb5 x1
  have z2 := cell_below hb5 z2
  have z3 := cell_below hb5 z3
  have z4 := cell_below hb5 z4
  have hB5 := hB4.trans (hb5.mono hB4.size)
  by_cases ha : a < 0
  · have HF : Hid (bndE s.kinds (s.bonds.take i) d = 5) := by unfold Hid; rw [HE3.out, if_pos (.inl ha)]
    clear HE3
    go_wp2_with fail
    go_ret
    exact ⟨by rw [HF.out]; rfl, hB5⟩
  have ha' : 0 ≤ a := by omega
  have hk2 := kFind_any s.kinds d.dst _ _ (HV4.out.below hb5)
  generalize kFind s.kinds d.dst = c at *
  go_wp2_with fail
  refine hk2.mono ?_
  clear hk2
  rintro e w6 ⟨rfl, hb6⟩
  have z3 := cell_below hb6 z3
  have z4 := cell_below hb6 z4
  have hB6 := hB5.trans (hb6.mono hB5.size)
  clear x0 x1 z0 z1 z2 hb5 hb6 hB5 hB4 HV4
  by_cases hc : c < 0
  · have HF : Hid (bndE s.kinds (s.bonds.take i) d = 5) := by unfold Hid; rw [HE3.out, if_pos (.inr hc)]
    clear HE3
    go_wp2_with fail
    go_ret
    exact ⟨by rw [HF.out]; rfl, hB6⟩
  have hc' : 0 ≤ c := by omega
  have HE4 : Hid (bndE s.kinds (s.bonds.take i) d = if rngB d then 1 else 0) := by unfold Hid; rw [HE3.out, if_neg (by omega)]
  have HRB : Hid (rngB d ↔ (d.mn < 0 ∨ 20 < d.mn ∨ (d.mx ≠ -1 ∧ (d.mx < d.mn ∨ 20 < d.mx)))) := Iff.rfl
  clear HE3 ha hc
  generalize d.mn = mn at *
  generalize d.mx = mx at *
  by_cases hr : rngB d
  · have HF : Hid (bndE s.kinds (s.bonds.take i) d = 1) := by unfold Hid; rw [HE4.out, if_pos hr]
    have hr2 := HRB.out.1 hr
    clear HE4 HRB hr
    by_cases e1 : mn < 0
    · clear hr2
      go_wp2_with fail
      go_ret
      exact ⟨by rw [HF.out]; rfl, hB6⟩
    have e1' : 0 ≤ mn := by omega
    by_cases e2 : 20 < mn
    · clear hr2 e1
      go_wp2_with fail
      go_ret
      exact ⟨by rw [HF.out]; rfl, hB6⟩
    have e2' : mn ≤ 20 := by omega
    have e3 : (mx != -1) = true := bne_iff_ne.2 (by omega)
    have e3' : ¬ mx = -1 := by omega
    by_cases e4 : mx < mn
    · clear hr2 e1 e2
      go_wp2_with fail
      go_ret
      exact ⟨by rw [HF.out]; rfl, hB6⟩
    have e4' : mn ≤ mx := by omega
    have e5 : 20 < mx := by omega
    clear hr2 e1 e2 e4
    go_wp2_with fail
    go_ret
    exact ⟨by rw [HF.out]; rfl, hB6⟩
  · have HF : Hid (bndE s.kinds (s.bonds.take i) d = 0) := by unfold Hid; rw [HE4.out, if_neg hr]
    have hr2 : ¬ (mn < 0 ∨ 20 < mn ∨ (mx ≠ -1 ∧ (mx < mn ∨ 20 < mx))) := fun h => hr (HRB.out.2 h)
    have e1' : 0 ≤ mn := by omega
    have e2' : mn ≤ 20 := by omega
    clear HE4 HRB hr
    by_cases e3 : mx = -1
    · subst e3
      clear hr2
      go_wp2_with fail
      go_ret
      exact ⟨by rw [HF.out]; rfl, hB6⟩
    have e3' : (mx != -1) = true := bne_iff_ne.2 e3
    have e4' : mn ≤ mx := by omega
    have e5' : mx ≤ 20 := by omega
    clear hr2
    go_wp2_with fail
    go_ret
    exact ⟨by rw [HF.out]; rfl, hB6⟩
end Go.Proofs.Ytpjnbikkhfnjbaa

/- Contracts: schema.Check, schema.Right. -/
namespace Go.Proofs.Ytpjnbikkhfnjbaa
open Go Go.RowKit

theorem bndsE_step {ks : List Knd} {l : List Bnd} {k : Nat} {d : Bnd} {E : ByteArray × Int} (hd : l[k]? = some d) (h : E = bndsE ks (l.take k) (l.drop k)) :
    E = if bndE ks (l.take k) d = 0 then bndsE ks (l.take (k + 1)) (l.drop (k + 1)) else (d.name, bndE ks (l.take k) d) := by
  rw [h, drop_cons hd, bndsE, take_step hd]
def SCheckR (s : Scm) (w : World) (e : Ending) (w' : World) : Prop := e = .returned (.tuple #[.string (scmE s).1, errV (scmE s).2]) ∧ Below w.heap.size w w'
set_option maxRecDepth 100000 in
set_option maxHeartbeats 4000000 in
theorem scheck_any (s : Scm) (vk vb : Value) (w : World) (hv : ScmR w vk vb s) : Calls Try.prog 27 #[.agg #[vk, vb]] w (SCheckR s w) := by
  obtain ⟨Ak, ck, rfl, _, _⟩ := hv.1.form
  obtain ⟨Ab, cb, rfl, hlc, hcm⟩ := hv.2.form
  have hb0 : Below w.heap.size w (w.alloc (.cells #[.slice Ak s.kinds.length ck, .slice Ab s.bonds.length cb] 25)) := (Below.refl _ _).alloc (Nat.le_refl _) _
  obtain ⟨x0, x1⟩ := cell_box2 w (.slice Ak s.kinds.length ck) (.slice Ab s.bonds.length cb) 25
  have HV := Lib.hid (hv.below hb0)
  have hck := kcheck_any s.kinds _ _ (hv.1.below hb0)
  have HE0 : Hid (scmE s = if (checkE s.kinds).2 = 0 then (if 12 < s.bonds.length then (.empty, 4) else bndsE s.kinds [] s.bonds) else checkE s.kinds) := rfl
  have hw0 := hb0.size
  clear hv
  go_enter Try.func27, Try.ntmps27
  go_wp2_with fail
  generalize w.alloc (.cells #[.slice Ak s.kinds.length ck, .slice Ab s.bonds.length cb] 25) = w0 at *
  refine hck.mono ?_
  clear hck
  rintro e w1 ⟨rfl, hb1⟩
  have hB1 := hb0.trans (hb1.mono hw0)
  have x0 := cell_below hb1 x0
  have x1 := cell_below hb1 x1
  have HV1 := Lib.hid (HV.out.below hb1)
  have hw1 := hB1.size
  generalize hce : checkE s.kinds = ce at *
  by_cases he : ce.2 = 0
  case neg =>
    have HF : Hid (scmE s = ce) := by unfold Hid; rw [HE0.out, if_neg he]
    have HF2 : Hid (errV ce.2 = .iface 83 (.int .i64 ce.2)) := errV_some he
    rw [errV_some he]
    clear he HE0 hce
    go_wp2_with fail
    go_ret2
    exact ⟨by rw [HF.out, HF2.out]; rfl, hB1⟩
  have HE1 : Hid (scmE s = if 12 < s.bonds.length then (.empty, 4) else bndsE s.kinds [] s.bonds) := by unfold Hid; rw [HE0.out, if_pos he]
  rw [errV_zero he]
  clear he HE0 hce
  by_cases h12 : 12 < s.bonds.length
  · have HF : Hid (scmE s = (.empty, 4)) := by unfold Hid; rw [HE1.out, if_pos h12]
    have h12' : (12 : Int) < (s.bonds.length : Int) := by omega
    clear HE1
    go_wp2_with fail
    go_ret2
    exact ⟨by rw [HF.out]; rfl, hB1⟩
  have HE2 : Hid (scmE s = bndsE s.kinds [] s.bonds) := by unfold Hid; rw [HE1.out, if_neg h12]
  have h12' : (s.bonds.length : Int) ≤ 12 := by omega
  clear HE1 h12
  go_wp2_with fail
  go_loopw [27] (fun i wr => ∃ k : Nat, k ≤ s.bonds.length ∧ i = .int .i64 k ∧ Below w1.heap.size w1 wr ∧ Hid (scmE s = bndsE s.kinds (s.bonds.take k) (s.bonds.drop k))) (fun i _ => s.bonds.length - (intOf i).toNat)
  case atStart => exact ⟨0, Nat.zero_le _, rfl, Below.refl _ _, HE2.out⟩
  case round =>
    obtain ⟨k, hk, rfl, hb, HR⟩ := hrel
    have y0 := cell_below hb x0
    have y1 := cell_below hb x1
    have hBr := hB1.trans (hb.mono hw1)
    clear x0 x1
    by_cases hlt : k < s.bonds.length
    · obtain ⟨d, hd⟩ : ∃ d, s.bonds[k]? = some d := ⟨_, List.getElem?_eq_getElem hlt⟩
      have hlt' : (k : Int) < (s.bonds.length : Int) := by omega
      have HV2 := Lib.hid (HV1.out.below hb)
      obtain ⟨b, o, rfl, hok, c0, c1, c2, c3, c4⟩ := bnd_at HV2.out.2 hd
      have hbx : Below wr.heap.size wr (wr.alloc (.cells #[.string d.name, .string d.src, .string d.dst, .int .i64 d.mn, .int .i64 d.mx] 47)) := (Below.refl _ _).alloc (Nat.le_refl _) _
      obtain ⟨z0, _, _, _, _⟩ := cell_box5 wr (.string d.name) (.string d.src) (.string d.dst) (.int .i64 d.mn) (.int .i64 d.mx) 47
      have v0 := cell_below hbx y0
      have v1 := cell_below hbx y1
      have hbd := bond_any s k d _ _ _ (HV2.out.below hbx) hd
      have HS := Lib.hid (bndsE_step hd HR.out)
      generalize bndE s.kinds (s.bonds.take k) d = q at *
      clear hd HR
      go_wp2_with fail
      refine hbd.mono ?_
      clear hbd
      rintro e w3 ⟨rfl, hb3⟩
      have hB3 := hb.trans ((hbx.trans (hb3.mono hbx.size)).mono hb.size)
      have z0 := cell_below hb3 z0
      by_cases hq : q = 0
      · have HS2 : Hid (scmE s = bndsE s.kinds (s.bonds.take (k + 1)) (s.bonds.drop (k + 1))) := by unfold Hid; rw [HS.out, if_pos hq]
        rw [errV_zero hq]
        clear hq HS v0 v1 c0 c1 c2 c3 c4
        go_wp2_with fail
        go_roundw
        case rel => exact ⟨k + 1, by omega, by go_num, hB3, HS2⟩
        case measure => simp [intOf]; omega
      · have HF : Hid (scmE s = (d.name, q)) := by unfold Hid; rw [HS.out, if_neg hq]
        have HF2 : Hid (errV q = .iface 83 (.int .i64 q)) := errV_some hq
        rw [errV_some hq]
        clear hq HS v0 v1 c0 c1 c2 c3 c4
        go_wp2_with fail
        go_ret2
        exact ⟨by rw [HF.out, HF2.out]; rfl, hB1.trans (hB3.mono hw1)⟩
    · obtain rfl : k = s.bonds.length := by omega
      have HF : Hid (scmE s = (.empty, 0)) := by unfold Hid; rw [HR.out, List.drop_length]; rfl
      clear HR
      go_wp2_with fail
      go_ret2
      exact ⟨by rw [HF.out]; rfl, hBr⟩
theorem sright_any (s : Scm) (vk vb : Value) (w : World) (hv : ScmR w vk vb s) : Calls Try.prog 15 #[.agg #[vk, vb]] w fun e w' => e = .returned (errV (scmE s).2) ∧ Below w.heap.size w w' := by
  have hb0 : Below w.heap.size w (w.alloc (.cells #[vk, vb] 25)) := (Below.refl _ _).alloc (Nat.le_refl _) _
  have h1 := scheck_any s vk vb _ (hv.below hb0)
  obtain ⟨z, hz⟩ : ∃ z, z = errV (scmE s).2 := ⟨_, rfl⟩
  have HZ := Lib.hid hz
  obtain ⟨A, c, rfl, _, _⟩ := hv.1.form
  obtain ⟨A', c', rfl, _, _⟩ := hv.2.form
  clear hv
  go_enter Try.func15, Try.ntmps15
  go_wp2_with fail
  refine h1.mono ?_
  clear h1
  rintro e w2 ⟨he, hb2⟩
  rw [← HZ.out] at he
  subst he
  clear hz
  go_wp2_with fail
  go_ret
  exact ⟨by rw [← HZ.out]; rfl, hb0.trans (hb2.mono (by simp))⟩
end Go.Proofs.Ytpjnbikkhfnjbaa

/- Plain: what a right graph gives. -/
namespace Go.Proofs.Ytpjnbikkhfnjbaa

/-! ### What a right graph gives -/
theorem nodsE_step {p : Option Nod} {n : Nod} {r : List Nod} (h : nodsE p (n :: r) = 0) : idB n.id = true ∧ nodE n = 0 ∧ nodsE (some n) r = 0 ∧ (∀ a, p = some a → nodLt a n = true) := by
  have h1 : idB n.id = true := by
    cases h1 : idB n.id with
    | true => rfl
    | false => unfold nodsE at h; rw [if_pos h1] at h; cases h
  have key : ∀ b : Bool, (if b = true then (7 : Int) else if nodE n = 0 then nodsE (some n) r else nodE n) = 0 → b = false ∧ nodE n = 0 ∧ nodsE (some n) r = 0 := by
    intro b hb
    cases b with
    | true => cases hb
    | false =>
      simp only [Bool.false_eq_true, if_false] at hb
      by_cases h3 : nodE n = 0
      · rw [if_pos h3] at hb; exact ⟨rfl, h3, hb⟩
      · rw [if_neg h3] at hb; exact absurd hb h3
  have hid : ¬ (idB n.id = false) := by simp [h1]
  cases p with
  | none =>
    unfold nodsE at h
    rw [if_neg hid] at h
    obtain ⟨_, k2, k3⟩ := key false h
    exact ⟨h1, k2, k3, fun a ha => by cases ha⟩
  | some q =>
    unfold nodsE at h
    rw [if_neg hid] at h
    obtain ⟨k1, k2, k3⟩ := key (decide (n.id ≤ q.id)) h
    refine ⟨h1, k2, k3, fun a ha => ?_⟩
    cases ha
    unfold nodLt
    simpa using k1
theorem nodsE_zero : ∀ {l : List Nod} {p : Option Nod}, nodsE p l = 0 → (∀ n ∈ l, idB n.id = true ∧ nodE n = 0) ∧ chain nodLt l = true ∧ (∀ a b, p = some a → l.head? = some b → nodLt a b = true)
  | [], p, _ => ⟨by simp, rfl, by simp⟩
  | n :: r, p, h => by
    obtain ⟨s1, s2, s3, s4⟩ := nodsE_step h
    obtain ⟨i1, i2, i3⟩ := nodsE_zero s3
    refine ⟨?_, ?_, ?_⟩
    · intro m hm
      rcases List.mem_cons.1 hm with rfl | hm
      · exact ⟨s1, s2⟩
      · exact i1 m hm
    · cases r with
      | nil => rfl
      | cons b r => simp only [chain, Bool.and_eq_true]; exact ⟨i3 n b rfl rfl, i2⟩
    · intro a b ha hb
      simp at hb
      subst hb
      exact s4 a ha
theorem grf_ok {g : Grf} (h : grfE g = 0) : g.nodes.length ≤ 60 ∧ g.ties.length ≤ 120 ∧ chain nodLt g.nodes = true ∧ ∀ n ∈ g.nodes, idB n.id = true ∧ nodE n = 0 := by
  unfold grfE at h
  by_cases h1 : 60 < g.nodes.length ∨ 120 < g.ties.length
  · rw [if_pos h1] at h; cases h
  rw [if_neg h1] at h
  by_cases h2 : nodsE none g.nodes = 0
  · obtain ⟨i1, i2, _⟩ := nodsE_zero h2
    exact ⟨by omega, by omega, i2, i1⟩
  · rw [if_neg h2] at h; exact absurd h h2

theorem fhas_some' {l : List Nod} {id : Int} (h : fhas l id = true) : ∃ n, l[fpos l id]? = some n := by
  unfold fhas eqAt at h
  cases hd : l[fpos l id]? with
  | none => rw [hd] at h; simp at h
  | some d => exact ⟨d, rfl⟩
end Go.Proofs.Ytpjnbikkhfnjbaa

/- Plain: the order of ties; what a right graph's ties give. -/
namespace Go.Proofs.Ytpjnbikkhfnjbaa

def tieLt (a b : Tie) : Bool := decide (tieO a b < 0)
def tieC (t : Tie) (d : Tie) : Int := tieO d t
def tpos (l : List Tie) (t : Tie) : Nat := lowI (tieC t) l
def thas (l : List Tie) (t : Tie) : Bool := eqAt (tieC t) l (tpos l t)
theorem tieO_neg {a b : Tie} : tieO a b < 0 ↔ cmpS a.bond b.bond < 0 ∨ (a.bond = b.bond ∧ (a.src < b.src ∨ (a.src = b.src ∧ a.dst < b.dst))) := by
  have h0 := @cmpS_zero a.bond b.bond
  have h1 := @cmpI_neg a.src b.src
  have h2 := @cmpI_zero a.src b.src
  have h3 := @cmpI_neg a.dst b.dst
  unfold tieO orI
  by_cases e1 : cmpS a.bond b.bond = 0
  · rw [if_pos e1]
    unfold orI
    by_cases e2 : cmpI a.src b.src = 0
    · rw [if_pos e2]
      unfold orI orI
      have e4 := h2.1 e2
      by_cases e3 : cmpI a.dst b.dst = 0
      · rw [if_pos e3]
        have : ¬ a.dst < b.dst := fun h => by have := h3.2 h; omega
        constructor
        · intro h; omega
        · rintro (h | ⟨_, h | ⟨_, h⟩⟩) <;> omega
      · rw [if_neg e3]
        constructor
        · intro h; exact .inr ⟨h0.1 e1, .inr ⟨e4, h3.1 h⟩⟩
        · rintro (h | ⟨_, h | ⟨_, h⟩⟩)
          · omega
          · omega
          · exact h3.2 h
    · rw [if_neg e2]
      constructor
      · intro h; exact .inr ⟨h0.1 e1, .inl (h1.1 h)⟩
      · rintro (h | ⟨_, h | ⟨h, _⟩⟩)
        · omega
        · exact h1.2 h
        · exact absurd (h2.2 h) e2
  · rw [if_neg e1]
    constructor
    · intro h; exact .inl h
    · rintro (h | ⟨h, _⟩)
      · exact h
      · exact absurd (h0.2 h) e1
theorem tieO_zero {a b : Tie} : tieO a b = 0 ↔ a = b := by
  have h0 := @cmpS_zero a.bond b.bond
  have h2 := @cmpI_zero a.src b.src
  have h3 := @cmpI_zero a.dst b.dst
  have hx : a = b ↔ a.bond = b.bond ∧ a.src = b.src ∧ a.dst = b.dst := by
    cases a; cases b; simp
  rw [hx]
  unfold tieO orI
  by_cases e1 : cmpS a.bond b.bond = 0
  · rw [if_pos e1]
    unfold orI
    by_cases e2 : cmpI a.src b.src = 0
    · rw [if_pos e2]
      unfold orI orI
      by_cases e3 : cmpI a.dst b.dst = 0
      · rw [if_pos e3]; exact ⟨fun _ => ⟨h0.1 e1, h2.1 e2, h3.1 e3⟩, fun _ => rfl⟩
      · rw [if_neg e3]; exact ⟨fun h => absurd h e3, fun h => absurd (h3.2 h.2.2) e3⟩
    · rw [if_neg e2]; exact ⟨fun h => absurd h e2, fun h => absurd (h2.2 h.2.1) e2⟩
  · rw [if_neg e1]; exact ⟨fun h => absurd h e1, fun h => absurd (h0.2 h.1) e1⟩
theorem tieO_trans {a b c : Tie} (h : tieO a b < 0) (k : tieO b c < 0) : tieO a c < 0 := by
  rw [tieO_neg] at h k ⊢
  rcases h with h | ⟨e1, h⟩
  · rcases k with k | ⟨e2, _⟩
    · exact .inl (cmpS_trans h k)
    · exact .inl (by rw [← e2]; exact h)
  · rcases k with k | ⟨e2, k⟩
    · exact .inl (by rw [e1]; exact k)
    · refine .inr ⟨e1.trans e2, ?_⟩
      omega
theorem tieC_mono (t : Tie) : ∀ a b, tieLt a b = true → 0 ≤ tieC t a → 0 ≤ tieC t b := by
  intro a b h h1
  unfold tieLt at h
  unfold tieC at h1 ⊢
  have h := of_decide_eq_true h
  by_cases hb : tieO b t < 0
  · have := tieO_trans h hb; omega
  · omega
theorem tiesE_step {p : Option Tie} {t : Tie} {r : List Tie} (h : tiesE p (t :: r) = 0) : tieE t = 0 ∧ tiesE (some t) r = 0 ∧ (∀ a, p = some a → tieLt a t = true) := by
  have e : tiesE p (t :: r) = if tieE t = 0 then (if (match p with | some q => decide (0 ≤ tieO q t) | none => false) then 7 else tiesE (some t) r) else tieE t := by cases p <;> rfl
  rw [e] at h
  by_cases h1 : tieE t = 0
  · rw [if_pos h1] at h
    cases p with
    | none => exact ⟨h1, h, fun a ha => by cases ha⟩
    | some q =>
      have h : (if decide (0 ≤ tieO q t) = true then (7 : Int) else tiesE (some t) r) = 0 := h
      by_cases h2 : 0 ≤ tieO q t
      · rw [if_pos (decide_eq_true h2)] at h; omega
      · rw [if_neg (fun x => h2 (of_decide_eq_true x))] at h
        exact ⟨h1, h, fun a ha => by cases ha; exact decide_eq_true (by omega)⟩
  · rw [if_neg h1] at h; exact absurd h h1
theorem tiesE_zero : ∀ {l : List Tie} {p : Option Tie}, tiesE p l = 0 → (∀ t ∈ l, tieE t = 0) ∧ chain tieLt l = true ∧ (∀ a b, p = some a → l.head? = some b → tieLt a b = true)
  | [], p, _ => ⟨by simp, rfl, by simp⟩
  | n :: r, p, h => by
    obtain ⟨s1, s3, s4⟩ := tiesE_step h
    obtain ⟨i1, i2, i3⟩ := tiesE_zero s3
    refine ⟨?_, ?_, ?_⟩
    · intro m hm
      rcases List.mem_cons.1 hm with rfl | hm
      · exact s1
      · exact i1 m hm
    · cases r with
      | nil => rfl
      | cons b r => simp only [chain, Bool.and_eq_true]; exact ⟨i3 n b rfl rfl, i2⟩
    · intro a b ha hb
      simp at hb
      subst hb
      exact s4 a ha
theorem grf_parts {g : Grf} (h : grfE g = 0) : nodsE none g.nodes = 0 ∧ tiesE none g.ties = 0 := by
  unfold grfE at h
  by_cases h1 : 60 < g.nodes.length ∨ 120 < g.ties.length
  · rw [if_pos h1] at h; cases h
  rw [if_neg h1] at h
  by_cases h2 : nodsE none g.nodes = 0
  · rw [if_pos h2] at h; exact ⟨h2, h⟩
  · rw [if_neg h2] at h; exact absurd h h2
theorem grf_ties {g : Grf} (h : grfE g = 0) : chain tieLt g.ties = true ∧ ∀ t ∈ g.ties, tieE t = 0 := by
  obtain ⟨i1, i2, _⟩ := tiesE_zero (grf_parts h).2
  exact ⟨i2, i1⟩
end Go.Proofs.Ytpjnbikkhfnjbaa

/- Plain: blocks of one element type stay as they are where only blocks of other types are written. No condition. -/
namespace Go.Proofs.Ytpjnbikkhfnjbaa
open Go Go.RowKit

/-- All blocks of cells of type T are as they were. -/
def Same (T : TypeId) (w w' : World) : Prop := ∀ (k : Nat) c fr, w.heap[k]? = some (.cells c T fr) → w'.heap[k]? = some (.cells c T fr)
theorem Same.refl (T : TypeId) (w : World) : Same T w w := fun _ _ _ h => h
theorem Same.trans {T : TypeId} {a b c : World} (h : Same T a b) (k : Same T b c) : Same T a c := fun i x fr hx => k i x fr (h i x fr hx)
theorem Same.below {T : TypeId} {w w' : World} (hb : Below w.heap.size w w') : Same T w w' := fun k _ _ h => (hb.block k (Array.getElem?_eq_some_iff.1 h).1).trans h
theorem Same.alloc {T : TypeId} (w : World) (o : Obj) : Same T w (w.alloc o) := .below ((Below.refl _ _).alloc (Nat.le_refl _) _)
theorem Same.drewN {T : TypeId} (w : World) (n : Nat) : Same T w (w.drewN n) := fun _ _ _ h => h
theorem Same.drew {T : TypeId} (w : World) : Same T w w.drew := fun _ _ _ h => h
theorem Same.grown {T e : TypeId} {w w' : World} {B sz n : Nat} {v : Value} {xs : List Value} (ho : Own w B e sz v n xs) (hne : e ≠ T) (hg : w.grownBy w' v.ownBlock) : Same T w w' := fun k c fr h => by
  have hlt := (Array.getElem?_eq_some_iff.1 h).1
  refine (hg.block k hlt fun e' => ?_).trans h
  rcases ho.2 with ⟨rfl, _⟩ | ⟨g, o, cap, cur, rfl, _, hg2, _⟩
  · simp [Value.ownBlock] at e'
  · simp [Value.ownBlock] at e'
    subst e'
    rw [h] at hg2
    injection hg2 with hg2
    injection hg2 with _ h2 _
    exact hne h2.symm
theorem Same.setCell {T e : TypeId} {w : World} {p : Addr} {c : Array Value} {fr : Nat × Nat} (hp : w.heap[p.block]? = some (.cells c e fr)) (hne : e ≠ T) (u : Value) : Same T w (w.setCell p u) := fun k c' fr' h => by
  refine (Below.heap_setCell w p u k (fun e' => ?_)).trans h
  subst e'
  rw [h] at hp
  injection hp with hp
  injection hp with _ h2 _
  exact hne h2.symm
theorem Own.same {w w' : World} {B : Nat} {e : TypeId} {sz : Nat} {v : Value} {n : Nat} {xs : List Value} (h : Own w B e sz v n xs) (hs : Same e w w') : Own w' B e sz v n xs := by
  refine ⟨h.1, ?_⟩
  rcases h.2 with hn | ⟨g, o, cap, cur, rfl, hb, hg, rest⟩
  · exact .inl hn
  · exact .inr ⟨g, o, cap, cur, rfl, hb, hs g cur _ hg, rest⟩

/-- Nodes of which each one's record is the call's own. -/
def OwnNods (w : World) (B : Nat) : List Nod → List Value → Prop
  | [], xs => xs = []
  | d :: l, xs => ∃ u ys, xs = [.int .i64 d.id, .string d.kind, u] ++ ys ∧ I64 d.id ∧ Sm d.kind ∧ (∀ p ∈ d.props, p.ok) ∧ Own w B 96 4 u d.props.length (d.props.flatMap Prp.enc) ∧ OwnNods w B l ys
theorem OwnNods.same {w w' : World} {B : Nat} (hs : Same 96 w w') : ∀ {l : List Nod} {xs : List Value}, OwnNods w B l xs → OwnNods w' B l xs
  | [], _, h => h
  | _ :: _, _, h => by
    obtain ⟨u, ys, rfl, h1, h2, h3, h4, h5⟩ := h
    exact ⟨u, ys, rfl, h1, h2, h3, h4.same hs, h5.same hs⟩
theorem OwnNods.snoc {w : World} {B : Nat} {d : Nod} {u : Value} (h1 : I64 d.id) (h2 : Sm d.kind) (h3 : ∀ p ∈ d.props, p.ok) (h4 : Own w B 96 4 u d.props.length (d.props.flatMap Prp.enc)) :
    ∀ {l : List Nod} {xs : List Value}, OwnNods w B l xs → OwnNods w B (l ++ [d]) (xs ++ [.int .i64 d.id, .string d.kind, u])
  | [], xs, h => by rw [show xs = [] from h]; exact ⟨u, [], by simp, h1, h2, h3, h4, rfl⟩
  | e :: l, xs, h => by
    obtain ⟨v, ys, rfl, k1, k2, k3, k4, k5⟩ := h
    exact ⟨v, ys ++ [.int .i64 d.id, .string d.kind, u], by simp, k1, k2, k3, k4, k5.snoc h1 h2 h3 h4⟩
theorem OwnNods.row {w : World} {B : Nat} : ∀ {l : List Nod} {xs : List Value}, OwnNods w B l xs → Row nodL w l xs
  | [], _, h => h
  | _ :: _, _, h => by
    obtain ⟨u, ys, rfl, h1, h2, h3, h4, h5⟩ := h
    exact ⟨_, ys, rfl, ⟨u, rfl, h1, h2, h4.prps h3⟩, h5.row⟩
theorem Own.nods {w : World} {B B' : Nat} {e : TypeId} {v : Value} {l : List Nod} {xs : List Value} (h : Own w B e 3 v l.length xs) (hn : OwnNods w B' l xs) : Sl nodL w v l := Own.row (L := nodL) h hn.row
theorem own_of_block {w : World} {b B : Nat} {e : TypeId} {sz n : Nat} {cs : List Value} (h : w.heap[b]? = some (.cells cs.toArray e (0, 0))) (hB : B ≤ b) (hl : cs.length = n * sz) (hm : n ≤ maxLen) : Own w B e sz (.slice (some ⟨b, 0, none⟩) n n) n cs :=
  ⟨hl, .inr ⟨b, 0, n, cs.toArray, rfl, hB, h, Nat.le_refl _, hm, by simp [hl], by rw [List.drop_zero, ← hl]; exact List.take_length⟩⟩
theorem Own.ne_block {w : World} {B : Nat} {e e' : TypeId} {sz n k : Nat} {v : Value} {xs : List Value} {c : Array Value} {fr : Nat × Nat} (ho : Own w B e sz v n xs) (h : w.heap[k]? = some (.cells c e' fr)) (hne : e' ≠ e) : some k ≠ v.ownBlock := by
  intro e1
  rcases ho.2 with ⟨rfl, _⟩ | ⟨g, o, cap, cur, rfl, _, hg2, _⟩
  · simp [Value.ownBlock] at e1
  · simp [Value.ownBlock] at e1
    subst e1
    rw [h] at hg2
    injection hg2 with hg2
    injection hg2 with _ h2 _
    exact hne h2
theorem grown_block {w w' : World} {k : Nat} {row : Option Nat} {o : Obj} (hg : w.grownBy w' row) (h : w.heap[k]? = some o) (hne : some k ≠ row) : w'.heap[k]? = some o :=
  (hg.block k (Array.getElem?_eq_some_iff.1 h).1 hne).trans h
theorem block_cell {w : World} {k : Nat} {c : Array Value} {T : TypeId} {fr : Nat × Nat} (h : w.heap[k]? = some (.cells c T fr)) (i : Nat) : w.cell? ⟨k, i, none⟩ = c[i]? := by
  simp [World.cell?, h]
theorem block_free {w : World} {k : Nat} {c : Array Value} {T : TypeId} (h : w.heap[k]? = some (.cells c T (0, 0))) (i : Nat) : w.frozen? ⟨k, i, none⟩ = false := by
  simp [World.frozen?, h]
theorem setCell_block {w : World} {k : Nat} {c : Array Value} {T : TypeId} {fr : Nat × Nat} (h : w.heap[k]? = some (.cells c T fr)) (i : Nat) (u : Value) : (w.setCell ⟨k, i, none⟩ u).heap[k]? = some (.cells (c.setIfInBounds i u) T fr) := by
  simp [World.setCell, Array.getElem?_modify, h]
end Go.Proofs.Ytpjnbikkhfnjbaa
