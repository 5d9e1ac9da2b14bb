/- Parts: SchA, GNode, EndP, EndA, ChkP, ChkQ, Srow. -/
import Derived.Test.YtngbbefpphinjaaGreatDoorMg13
import Derived.Test.YtngbbefpphinjaaGreatDoorMg03
import Derived.Test.YtngbbefpphinjaaGreatDoorMg06
import Derived.Test.YtngbbefpphinjaaGreatDoorMg10
import Derived.Test.YtngbbefpphinjaaGreatDoorMg02
import Derived.Test.YtngbbefpphinjaaGreatDoorMg12
import Derived.Test.YtngbbefpphinjaaGreatDoorMg01
import Derived.Laws.Rows
import Derived.Laws.CopyRow
/- Contracts: schema.find, schema.Find, schema.bond, schema.Check, schema.Right. -/
namespace Go.Proofs.YtngbbefpphinjaaGreatDoor
open Go Go.RowKit
def bndV (_ : World) (d : Bnd) (u : Value) : Prop := u = .agg #[.string d.name, .string d.src, .string d.dst, .int .i64 d.mn, .int .i64 d.mx]
set_option maxHeartbeats 400000 in
theorem idx_bnds (g : Nat) (caps : Array Value) (eg : ∀ args w, (callFunc g args).run Tryz.prog w = .ok (.enter g args) w) (p : Bnd -> Bool) (l : List (Bnd)) (v : Value) (w : World) (hv : Sl bndL w v l)
 (hp : PredB Tryz.prog g caps bndV p w) :
 Calls Tryz.prog 195 #[v, .func (.func g) #[] caps] w fun e w' => e = .returned (.int .i64 (idxI p l)) /\ Below w.heap.size w w' := by
 obtain ⟨A, c, rfl, hlc, hcm⟩ := hv.form
 unfold maxLen at hcm
 go_enter Tryz.func195, Tryz.ntmps195
 go_wp2_with fail
 go_loopw [8] (fun i wr => ∃ k : Nat, k <= l.length /\ i = .int .i64 k /\ Below w.heap.size w wr /\ Hid (∀ j x, j < k -> l[j]? = some x -> p x = false)) (fun i _ => l.length - (intOf i).toNat)
 case atStart => exact ⟨0, Nat.zero_le _, rfl, Below.refl _ _, fun j x hj => absurd hj (Nat.not_lt_zero _)⟩
 obtain ⟨k, hk, rfl, hb, HA⟩ := hrel
 by_cases hlt : k < l.length
 ·obtain ⟨d, hd⟩ : ∃ d, l[k]? = some d := ⟨_, List.getElem?_eq_getElem hlt⟩
  obtain ⟨b, o, rfl, hok, c0, c1, c2, c3, c4⟩ := bnd_at (hv.below hb) hd
  have hcall := hp d (.agg #[.string d.name, .string d.src, .string d.dst, .int .i64 d.mn, .int .i64 d.mx]) wr hb rfl
  have HD : Hid (l[k]? = some d) := hd
  clear hd hp hv
  cases hq : p d with
  | true =>
   rw [hq] at hcall
   have HQ : Hid (p d = true) := hq
   clear hq
   go_wp2_with (go_at_fn g; refine hcall.mono ?_; rintro e w' ⟨rfl, hb2⟩)
   go_ret
   exact ⟨ret_int (idxI_hit HA.out HD.out HQ.out).symm, hb.trans (hb2.mono hb.size)⟩
  | false =>
   rw [hq] at hcall
   have HQ : Hid (p d = false) := hq
   clear hq
   go_wp2_with (go_at_fn g; refine hcall.mono ?_; rintro e w' ⟨rfl, hb2⟩)
   go_roundw
   case rel => exact ⟨k + 1, by omega, by go_num, hb.trans (hb2.mono hb.size), miss_step HA.out HD.out HQ.out⟩
   case measure => simp [intOf]; omega
 have hkl : k = l.length := by omega
 subst hkl
 clear hp hv
 go_wp2_with fail
 go_ret
 exact ⟨ret_int (idxI_miss HA.out).symm, hb⟩
theorem bFind1_any (d : Bnd) (name : ByteArray) (u : Value) (bk : Nat) (w : World) (hu : bndV w d u) (hc : w.cell? ⟨bk, 0, none⟩ = some (.string name)) :
 Calls Tryz.prog 196 #[u, .pointer (some ⟨bk, 0, none⟩)] w fun e w' => e = .returned (.bool (decide (d.name = name))) /\ Below w.heap.size w w' := by
 obtain rfl : u = _ := hu
 have hlt := World.block_lt_of_cell? _ _ hc
 by_cases hq : d.name = name
 ·have hd : decide (d.name = name) = true := decide_eq_true hq
  rw [hd]
  have hqb : (d.name.toList == name.toList) = true := by rw [bytes_beq]; exact hd
  clear hq hd
  go_enter Tryz.func196, Tryz.ntmps196
  go_wp2_with fail
  go_ret
  exact ⟨rfl, (Below.refl _ _).alloc (Nat.le_refl _) _⟩
 have hd : decide (d.name = name) = false := decide_eq_false hq
 rw [hd]
 have hqb : (d.name.toList == name.toList) = false := by rw [bytes_beq]; exact hd
 clear hq hd
 go_enter Tryz.func196, Tryz.ntmps196
 go_wp2_with fail
 go_ret
 exact ⟨rfl, (Below.refl _ _).alloc (Nat.le_refl _) _⟩
def bFind (l : List Bnd) (name : ByteArray) : Int := idxI (fun b => decide (b.name = name)) l
theorem bFind_any (l : List Bnd) (name : ByteArray) (v : Value) (w : World) (hv : Sl bndL w v l) :
 Calls Tryz.prog 149 #[v, .string name] w fun e w' => e = .returned (.int .i64 (bFind l name)) /\ Below w.heap.size w w' := by
 have hb0 : Below w.heap.size w (w.alloc (.cells #[.string name] 9)) := (Below.refl _ _).alloc (Nat.le_refl _) _
 have h1 := idx_bnds 196 #[.pointer (some ⟨w.heap.size, 0, none⟩)] (by intro args w; kernel_rfl) (fun k => decide (k.name = name)) l v _ (hv.below hb0)
  (fun d u wx hx hu => bFind1_any d name u w.heap.size wx hu (cell_below hx (by rw [World.cell?_alloc_at _ _ _ _ rfl]; rfl)))
 obtain ⟨A, c, rfl, _, _⟩ := hv.form
 clear hv
 go_enter Tryz.func149, Tryz.ntmps149
 go_wp2_with fail
 refine h1.mono ?_
 rintro e w2 ⟨rfl, hb2⟩
 go_wp2_with fail
 go_ret
 exact ⟨rfl, hb0.trans (hb2.mono (by simp))⟩
theorem sFind_any (s : Scm) (name : ByteArray) (vk vb : Value) (w : World) (hv : ScmR w vk vb s) :
 Calls Tryz.prog 92 #[.agg #[vk, vb], .string name] w fun e w' => e = .returned (.int .i64 (bFind s.bonds name)) /\ Below w.heap.size w w' := by
 have hb0 : Below w.heap.size w (w.alloc (.cells #[vk, vb] 61)) := (Below.refl _ _).alloc (Nat.le_refl _) _
 have h1 := bFind_any s.bonds name vb _ (hv.2.below hb0)
 obtain ⟨A, c, rfl, _, _⟩ := hv.1.form
 obtain ⟨A', c', rfl, _, _⟩ := hv.2.form
 clear hv
 go_enter Tryz.func92, Tryz.ntmps92
 go_wp2_with fail
 refine h1.mono ?_
 rintro e w2 ⟨rfl, hb2⟩
 go_wp2_with fail
 go_ret
 exact ⟨rfl, hb0.trans (hb2.mono (by simp))⟩
def rngB (b : Bnd) : Prop := b.mn < 0 \/ 20 < b.mn \/ (b.mx ≠ -1 /\ (b.mx < b.mn \/ 20 < b.mx))
instance (b : Bnd) : Decidable (rngB b) := by unfold rngB; infer_instance
def bndE (ks : List Knd) (p : List Bnd) (b : Bnd) : Int :=
 if nameE b.name = 0 then (if 0 <= bFind p b.name then 7 else if kFind ks b.src < 0 \/ kFind ks b.dst < 0 then 5 else if rngB b then 1 else 0) else nameE b.name
def bndsE (ks : List Knd) : List Bnd -> List Bnd -> ByteArray × Int
 | _, [] => (.empty, 0)
 | p, b :: r => if bndE ks p b = 0 then bndsE ks (p ++ [b]) r else (b.name, bndE ks p b)
def scmE (s : Scm) : ByteArray × Int := if (checkE s.kinds).2 = 0 then (if 12 < s.bonds.length then (.empty, 4) else bndsE s.kinds [] s.bonds) else checkE s.kinds
theorem cell_box5 (w : World) (a b c d e : Value) (t : TypeId) : (w.alloc (.cells #[a, b, c, d, e] t)).cell? ⟨w.heap.size, 0, none⟩ = some a /\ (w.alloc (.cells #[a, b, c, d, e] t)).cell? ⟨w.heap.size, 1, none⟩ = some b /\
 (w.alloc (.cells #[a, b, c, d, e] t)).cell? ⟨w.heap.size, 2, none⟩ = some c /\ (w.alloc (.cells #[a, b, c, d, e] t)).cell? ⟨w.heap.size, 3, none⟩ = some d /\ (w.alloc (.cells #[a, b, c, d, e] t)).cell? ⟨w.heap.size, 4, none⟩ = some e :=
 ⟨by rw [World.cell?_alloc_at _ _ _ _ rfl]; rfl, by rw [World.cell?_alloc_at _ _ _ _ rfl]; rfl, by rw [World.cell?_alloc_at _ _ _ _ rfl]; rfl, by rw [World.cell?_alloc_at _ _ _ _ rfl]; rfl, by rw [World.cell?_alloc_at _ _ _ _ rfl]; rfl⟩
set_option maxRecDepth 100000 in
set_option maxHeartbeats 8000000 in
theorem bond_any (s : Scm) (i : Nat) (d : Bnd) (vk vb : Value) (w : World) (hv : ScmR w vk vb s) (hd : s.bonds[i]? = some d) :
 Calls Tryz.prog 175 #[.agg #[vk, vb], .int .i64 i] w fun e w' => e = .returned (errV (bndE s.kinds (s.bonds.take i) d)) /\ Below w.heap.size w w' := by
 obtain ⟨Ak, ck, rfl, _, _⟩ := hv.1.form
 obtain ⟨Ab, cb, rfl, hlc, hcm⟩ := hv.2.form
 obtain ⟨b, o, rfl, hok, c0, c1, c2, c3, c4⟩ := bnd_at hv.2 hd
 have hil := (List.getElem?_eq_some_iff.1 hd).1
 have hb0 : Below w.heap.size w (w.alloc (.cells #[.slice Ak s.kinds.length ck, .slice (some ⟨b, o, none⟩) s.bonds.length cb] 61)) := (Below.refl _ _).alloc (Nat.le_refl _) _
 obtain ⟨x0, x1⟩ := cell_box2 w (.slice Ak s.kinds.length ck) (.slice (some ⟨b, o, none⟩) s.bonds.length cb) 61
 have HV0 := Lib.hid (show ScmR _ _ _ s from ⟨hv.1.below hb0, hv.2.below hb0⟩)
 have d0 := cell_below hb0 c0
 have d1 := cell_below hb0 c1
 have d2 := cell_below hb0 c2
 have d3 := cell_below hb0 c3
 have d4 := cell_below hb0 c4
 have HE : Hid (bndE s.kinds (s.bonds.take i) d = if nameE d.name = 0 then (if 0 <= bFind (s.bonds.take i) d.name then 7 else if kFind s.kinds d.src < 0 \/ kFind s.kinds d.dst < 0 then 5 else if rngB d then 1 else 0) else nameE d.name) := rfl
 have hw0 := hb0.size
 have hil' : (i : Int) < (s.bonds.length : Int) := by omega
 clear hv c0 c1 c2 c3 c4 hd
 have hsz0 : (w.alloc (.cells #[.slice Ak s.kinds.length ck, .slice (some ⟨b, o, none⟩) s.bonds.length cb] 61)).heap.size = w.heap.size + 1 := by simp
 go_enter Tryz.func175, Tryz.ntmps175
 go_wp2_with fail
 generalize w.alloc (.cells #[.slice Ak s.kinds.length ck, .slice (some ⟨b, o, none⟩) s.bonds.length cb] 61) = w0 at *
 have hb1 : Below w0.heap.size w0 (w0.alloc (.cells #[.string d.name, .string d.src, .string d.dst, .int .i64 d.mn, .int .i64 d.mx] 82)) := (Below.refl _ _).alloc (Nat.le_refl _) _
 obtain ⟨z0, z1, z2, z3, z4⟩ := cell_box5 w0 (.string d.name) (.string d.src) (.string d.dst) (.int .i64 d.mn) (.int .i64 d.mx) 82
 rw [hsz0] at z0 z1 z2 z3 z4
 have x0 := cell_below hb1 x0
 have x1 := cell_below hb1 x1
 have hw1 := hb1.size
 generalize w0.alloc (.cells #[.string d.name, .string d.src, .string d.dst, .int .i64 d.mn, .int .i64 d.mx] 82) = w1 at *
 refine (name_any d.name w1 hok.1).mono ?_
 rintro e w2 ⟨rfl, hb2⟩
 have hb02 := hb1.trans (hb2.mono hw1)
 have hB2 := hb0.trans (hb02.mono hw0)
 have HV2 := Lib.hid (show ScmR w2 _ _ s from ⟨HV0.out.1.below hb02, HV0.out.2.below hb02⟩)
 have x0 := cell_below hb2 x0
 have x1 := cell_below hb2 x1
 have z0 := cell_below hb2 z0
 have z1 := cell_below hb2 z1
 have z2 := cell_below hb2 z2
 have z3 := cell_below hb2 z3
 have z4 := cell_below hb2 z4
 have hw2 := hB2.size
 clear d0 d1 d2 d3 d4 hb02 hb2 hb1
 by_cases he : nameE d.name = 0
 case neg =>
  have HF : Hid (errV (bndE s.kinds (s.bonds.take i) d) = .iface 122 (.int .i64 (nameE d.name))) := by unfold Hid; rw [HE.out, if_neg he]; exact errV_some he
  rw [errV_some he]
  clear he HE
  go_wp2_with fail
  go_ret
  exact ⟨by rw [HF.out]; rfl, hB2⟩
 have HE2 : Hid (bndE s.kinds (s.bonds.take i) d = if 0 <= bFind (s.bonds.take i) d.name then 7 else if kFind s.kinds d.src < 0 \/ kFind s.kinds d.dst < 0 then 5 else if rngB d then 1 else 0) := by unfold Hid; rw [HE.out, if_pos he]
 rw [errV_zero he]
 have hic : (i : Int) <= (cb : Int) := by omega
 clear he HE
 go_wp2_with fail
 refine wp_mid_k 6 _ rfl rfl (by kernel_rfl) (by kernel_rfl) ?_
 simp only [List.take_succ_cons, List.take_zero, List.drop_succ_cons, List.drop_zero]
 repeat (go_big_quiet_step (fail))
 refine wpQuiet_nil ?_
 intro _ hw'
 obtain ⟨nq, hw''⟩ := hw'
 subst hw''
 intro K hK
 have hf := bFind_any (s.bonds.take i) d.name (.slice (some ⟨b, o, none⟩) i cb) (w2.drewN nq) ((Sl.take HV2.out.2 (by omega)).below (below_drewN (Below.refl _ _) nq))
 generalize bFind (s.bonds.take i) d.name = q at *
 go_wp2_with fail
 refine hf.mono ?_
 clear hf
 rintro e w3 ⟨rfl, hb3⟩
 have hB3' := (below_drewN (Below.refl w2.heap.size w2) nq).trans hb3
 have x0 := cell_below hB3' x0
 have x1 := cell_below hB3' x1
 have z0 := cell_below hB3' z0
 have z1 := cell_below hB3' z1
 have z2 := cell_below hB3' z2
 have z3 := cell_below hB3' z3
 have z4 := cell_below hB3' z4
 have HV3 := Lib.hid (show Sl kndL w3 _ s.kinds from HV2.out.1.below hB3')
 have hB3 := hB2.trans (hB3'.mono hw2)
 clear hb3 hB3' HV2 hB2
 refine hK _ _ ?_
 repeat (go_big_quiet_step (fail))
 refine wpQuiet_nil ?_
 intro _ hw'
 obtain ⟨nq2, hw''⟩ := hw'
 subst hw''
 clear hK
 by_cases hq : 0 <= q
 ·have HF : Hid (bndE s.kinds (s.bonds.take i) d = 7) := by unfold Hid; rw [HE2.out, if_pos hq]
  clear HE2
  go_wp2_with fail
  go_ret
  exact ⟨by rw [HF.out]; rfl, below_drewN hB3 _⟩
 have hq' : q < 0 := by omega
 have HE3 : Hid (bndE s.kinds (s.bonds.take i) d = if kFind s.kinds d.src < 0 \/ kFind s.kinds d.dst < 0 then 5 else if rngB d then 1 else 0) := by unfold Hid; rw [HE2.out, if_neg hq]
 have hB4 := below_drewN hB3 nq2
 have HV4 := Lib.hid (HV3.out.below (below_drewN (Below.refl w3.heap.size w3) nq2))
 have hk1 := kFind_any s.kinds d.src _ _ HV4.out
 clear HE2 hq HV3 hB3
 have hdw := below_drewN (Below.refl w3.heap.size w3) nq2
 have x0 := cell_below hdw x0
 have x1 := cell_below hdw x1
 have z0 := cell_below hdw z0
 have z1 := cell_below hdw z1
 have z2 := cell_below hdw z2
 have z3 := cell_below hdw z3
 have z4 := cell_below hdw z4
 clear hdw
 generalize w3.drewN nq2 = w4 at *
 generalize kFind s.kinds d.src = a at *
 go_wp2_with fail
 refine hk1.mono ?_
 clear hk1
 rintro e w5 ⟨rfl, hb5⟩
 have x0 := cell_below hb5 x0
 have x1 := cell_below hb5 x1
 have z2 := cell_below hb5 z2
 have z3 := cell_below hb5 z3
 have z4 := cell_below hb5 z4
 have hB5 := hB4.trans (hb5.mono hB4.size)
 by_cases ha : a < 0
 ·have HF : Hid (bndE s.kinds (s.bonds.take i) d = 5) := by unfold Hid; rw [HE3.out, if_pos (.inl ha)]
  clear HE3
  go_wp2_with fail
  go_ret
  exact ⟨by rw [HF.out]; rfl, hB5⟩
 have ha' : 0 <= a := by omega
 have hk2 := kFind_any s.kinds d.dst _ _ (HV4.out.below hb5)
 generalize kFind s.kinds d.dst = c at *
 go_wp2_with fail
 refine hk2.mono ?_
 clear hk2
 rintro e w6 ⟨rfl, hb6⟩
 have z3 := cell_below hb6 z3
 have z4 := cell_below hb6 z4
 have hB6 := hB5.trans (hb6.mono hB5.size)
 clear x0 x1 z0 z1 z2 hb5 hb6 hB5 hB4 HV4
 by_cases hc : c < 0
 ·have HF : Hid (bndE s.kinds (s.bonds.take i) d = 5) := by unfold Hid; rw [HE3.out, if_pos (.inr hc)]
  clear HE3
  go_wp2_with fail
  go_ret
  exact ⟨by rw [HF.out]; rfl, hB6⟩
 have hc' : 0 <= c := by omega
 have HE4 : Hid (bndE s.kinds (s.bonds.take i) d = if rngB d then 1 else 0) := by unfold Hid; rw [HE3.out, if_neg (by omega)]
 have HRB : Hid (rngB d ↔ (d.mn < 0 \/ 20 < d.mn \/ (d.mx ≠ -1 /\ (d.mx < d.mn \/ 20 < d.mx)))) := Iff.rfl
 clear HE3 ha hc
 generalize d.mn = mn at *
 generalize d.mx = mx at *
 by_cases hr : rngB d
 ·have HF : Hid (bndE s.kinds (s.bonds.take i) d = 1) := by unfold Hid; rw [HE4.out, if_pos hr]
  have hr2 := HRB.out.1 hr
  clear HE4 HRB hr
  by_cases e1 : mn < 0
  ·clear hr2
   go_wp2_with fail
   go_ret
   exact ⟨by rw [HF.out]; rfl, hB6⟩
  have e1' : 0 <= mn := by omega
  by_cases e2 : 20 < mn
  ·clear hr2 e1
   go_wp2_with fail
   go_ret
   exact ⟨by rw [HF.out]; rfl, hB6⟩
  have e2' : mn <= 20 := by omega
  have e3 : (mx != -1) = true := bne_iff_ne.2 (by omega)
  have e3' : ¬ mx = -1 := by omega
  by_cases e4 : mx < mn
  ·clear hr2 e1 e2
   go_wp2_with fail
   go_ret
   exact ⟨by rw [HF.out]; rfl, hB6⟩
  have e4' : mn <= mx := by omega
  have e5 : 20 < mx := by omega
  clear hr2 e1 e2 e4
  go_wp2_with fail
  go_ret
  exact ⟨by rw [HF.out]; rfl, hB6⟩
 have HF : Hid (bndE s.kinds (s.bonds.take i) d = 0) := by unfold Hid; rw [HE4.out, if_neg hr]
 have hr2 : ¬ (mn < 0 \/ 20 < mn \/ (mx ≠ -1 /\ (mx < mn \/ 20 < mx))) := fun h => hr (HRB.out.2 h)
 have e1' : 0 <= mn := by omega
 have e2' : mn <= 20 := by omega
 clear HE4 HRB hr
 by_cases e3 : mx = -1
 ·subst e3
  clear hr2
  go_wp2_with fail
  go_ret
  exact ⟨by rw [HF.out]; rfl, hB6⟩
 have e3' : (mx != -1) = true := bne_iff_ne.2 e3
 have e4' : mn <= mx := by omega
 have e5' : mx <= 20 := by omega
 clear hr2
 go_wp2_with fail
 go_ret
 exact ⟨by rw [HF.out]; rfl, hB6⟩
def zeroN : Nod := ⟨0, .empty, []⟩
def nodeE (g : Grf) (id : Int) : Int := if grfE g = 0 then (if fhas g.nodes id then 0 else 5) else grfE g
def nodeR (g : Grf) (id : Int) : Nod := if nodeE g id = 0 then (g.nodes[fpos g.nodes id]?).getD zeroN else zeroN
def endT (back : Bool) (bond : ByteArray) (id : Int) (t : Tie) : Bool := decide (t.bond = bond) && (if back then t.dst == id else t.src == id)
def endX (back : Bool) (t : Tie) : Int := if back then t.src else t.dst
def endsL (ts : List Tie) (id : Int) (bond : ByteArray) (back : Bool) : List Int := (ts.filter (endT back bond id)).map (endX back)
def idsN (l : List Nod) : List Int := l.map (·.id)
theorem ids_has {l : List Nod} (hc : chain nodLt l = true) (id : Int) : fhas l id = decide (id ∈ idsN l) := by
 rw [fhas_any hc, Bool.eq_iff_iff, List.any_eq_true, decide_eq_true_eq]
 unfold idsN
 constructor
 ·rintro ⟨n, h1, h2⟩
  exact List.mem_map.2 ⟨n, h1, by simpa using h2⟩
 intro h
 obtain ⟨n, h1, h2⟩ := List.mem_map.1 h
 exact ⟨n, h1, by simpa using h2⟩
def endsS (g : Grf) (id : Int) (bond : ByteArray) (back : Bool) : List Int := sortI (endsL g.ties id bond back)
theorem endsL_len (ts : List Tie) (id : Int) (bond : ByteArray) (back : Bool) : (endsL ts id bond back).length <= ts.length := by
 unfold endsL; rw [List.length_map]; exact List.length_filter_le _ _
theorem endsL_take {ts : List Tie} {k : Nat} {t : Tie} (ht : ts[k]? = some t) (id : Int) (bond : ByteArray) (back : Bool) :
 endsL (ts.take (k + 1)) id bond back = endsL (ts.take k) id bond back ++ (if endT back bond id t then [endX back t] else []) := by
 unfold endsL
 rw [List.take_add_one, ht, List.filter_append, List.map_append]
 congr 1
 show ((([t] : List Tie).filter (endT back bond id)).map (endX back)) = _
 rw [List.filter_cons]
 split <;> rfl
theorem endX_i64 {t : Tie} (h : t.ok) (back : Bool) : I64 (endX back t) := by
 unfold endX
 cases back
 ·exact h.2.2
 exact h.2.1
theorem eint_info : (Tryz.prog.info? 3).map (fun i => (i.zero, i.size, i.bytes)) = some (some (.int .i64 0), 1, 8) := by kernel_rfl
set_option maxRecDepth 100000 in
set_option maxHeartbeats 8000000 in
theorem ends_any (g : Grf) (id : Int) (bond : ByteArray) (back : Bool) (vn vt : Value) (w : World) (hG : GrfR w vn vt g) (hl : g.ties.length <= 1000) :
 Calls Tryz.prog 93 #[.agg #[vn, vt], .int .i64 id, .string bond, .bool back] w fun e w' => ∃ u, e = .returned u /\ Own w' w.heap.size 3 1 u (endsS g id bond back).length ((endsS g id bond back).map (Value.int .i64)) /\ (∀ x ∈ endsS g id bond back, I64 x) /\ Below w.heap.size w w' := by
 obtain ⟨i0, ei, ez, ez1, ez2⟩ := info_parts eint_info
 obtain ⟨An, cn, rfl, _, _⟩ := hG.1.form
 obtain ⟨At, ct, rfl, _, _⟩ := hG.2.form
 have hb0 : Below w.heap.size w (w.alloc (.cells #[.slice An g.nodes.length cn, .slice At g.ties.length ct] 25)) := (Below.refl _ _).alloc (Nat.le_refl _) _
 obtain ⟨x0, x1⟩ := cell_box2 w (.slice An g.nodes.length cn) (.slice At g.ties.length ct) 25
 generalize hW0 : w.alloc (.cells #[.slice An g.nodes.length cn, .slice At g.ties.length ct] 25) = W0 at *
 have HG := Lib.hid (hG.below hb0)
 have hw0 := hb0.size
 have HE : Hid (endsS g id bond back = sortI (endsL g.ties id bond back)) := rfl
 clear hG
 cases back with
 | true =>
  go_enter Tryz.func93, Tryz.ntmps93
  go_wp2_with fail
  clear hW0
  go_loopw [9, 15] (fun v i wr => W0.heap.size <= wr.heap.size /\ ∃ k : Nat, k <= g.ties.length /\ i = .int .i64 k /\ Below W0.heap.size W0 wr /\ Own wr W0.heap.size 3 1 v (endsL (g.ties.take k) id bond true).length ((endsL (g.ties.take k) id bond true).map (Value.int .i64))) (fun _ i _ => g.ties.length - (intOf i).toNat)
  case atStart => exact ⟨Nat.le_refl _, 0, Nat.zero_le _, rfl, Below.refl _ _, Own.nil _ _ _ _⟩
  case round =>
   obtain ⟨hsz, k, hk, rfl, hbr, hown⟩ := hrel
   have y1 := cell_below hbr x1
   have hBr := hb0.trans (hbr.mono hw0)
   obtain ⟨acc, hacc⟩ : ∃ acc, endsL (g.ties.take k) id bond true = acc := ⟨_, rfl⟩
   have hal : acc.length <= k := by
    rw [<- hacc]
    exact Nat.le_trans (endsL_len _ _ _ _) (by rw [List.length_take]; omega)
   by_cases hlt : k < g.ties.length
   ·obtain ⟨t, ht⟩ : ∃ t, g.ties[k]? = some t := ⟨_, List.getElem?_eq_getElem hlt⟩
    have hlt' : (k : Int) < (g.ties.length : Int) := by omega
    obtain ⟨b, o, rfl, htok, z0, z1, z2⟩ := tie_at (HG.out.below hbr).2 ht
    have HS : Hid (endsL (g.ties.take (k + 1)) id bond true = acc ++ if decide (t.bond = bond) && (t.dst == id) then [t.src] else []) := by
     have := endsL_take ht id bond true
     rw [hacc] at this
     exact this
    have HX : Hid (I64 (t.src)) := endX_i64 htok true
    have hbx : Below wr.heap.size wr (wr.alloc (.cells #[.string t.bond, .int .i64 (t.dst), .int .i64 (t.src)] 35)) := (Below.refl _ _).alloc (Nat.le_refl _) _
    obtain ⟨b0, b1, b2⟩ := cell_box3 wr (.string t.bond) (.int .i64 (t.dst)) (.int .i64 (t.src)) 35
    rw [hacc] at hown
    have hn1 : W0.heap.size <= (wr.alloc (.cells #[.string t.bond, .int .i64 (t.dst), .int .i64 (t.src)] 35)).heap.size := by simp; omega
    have HN1 := Lib.hid hn1
    clear ht hacc hn1
    go_upto_region 7 with fail
    generalize wr.alloc (.cells #[.string t.bond, .int .i64 (t.dst), .int .i64 (t.src)] 35) = W1 at *
    have hB1 := hbr.trans (hbx.mono hsz)
    have ho1 := hown.below hbx
    by_cases hq : t.bond = bond
    ·have hqb : (t.bond.toList == bond.toList) = true := by rw [hq]; simp
     have hqd : decide (t.bond.toList = bond.toList) = true := by rw [hq]; simp
     have hqe : t.bond.toList = bond.toList := by rw [hq]
     have hqf : decide (t.bond = bond) = true := decide_eq_true hq
     by_cases hp : t.dst = id
     ·have HS2 : Hid (endsL (g.ties.take (k + 1)) id bond true = acc ++ [t.src]) := by
       unfold Hid
       rw [HS.out, hqf, hp]
       simp
      have hp' : decide (t.dst = id) = true := decide_eq_true hp
      have hp'' : (t.dst == id) = true := by rw [hp]; simp
      clear hq hqf HS z0 z1 z2
      obtain ⟨Ap, cp, rfl, _, _⟩ := hown.form
      have ho2 := ho1.alloc (.cells #[.int .i64 (t.src)] 3)
      go_wp2_with (at_builtin; refine wpList_append_q _ rfl (.tmp 36) (.tmp 39) _ rfl W0.heap.size 3 i0 (.int .i64 0) 1 8 Tryz.underlying71 ei ez ez1 ez2 rfl (by decide) (.slice Ap acc.length cp) acc.length (acc.map (Value.int .i64)) rfl ho2 (some ⟨W1.heap.size, 0, none⟩) 1 1 [.int .i64 (t.src)] rfl rfl (fun _ => ⟨_, rfl, cell_one_new W1 (.int .i64 (t.src)) 3⟩) (by simp [Value.oneCell']) (by unfold maxLen; omega) (by omega) (by have := HN1.out; simp; omega) ?_; intro v7 w7 hown7 hg7 hat7)
      have hb7 : Below W0.heap.size W0 w7 := (hB1.alloc HN1.out _).grown hg7 (by have := HN1.out; simp; omega) (fun kk hkk => (ho1.lt kk hkk).1)
      have ho7 : Own w7 W0.heap.size 3 1 v7 (acc ++ [t.src]).length ((acc ++ [t.src]).map (Value.int .i64)) := by simpa using hown7
      have hs7 := hb7.size
      clear hg7 hat7 hown7
      go_roundw
      case rel => exact ⟨hs7, k + 1, by omega, by go_num, hb7, by rw [HS2.out]; exact ho7⟩
      case measure => simp [intOf]; omega
     have HS2 : Hid (endsL (g.ties.take (k + 1)) id bond true = acc) := by
      unfold Hid
      rw [HS.out, hqf]
      simp [hp]
     have hp' : decide (t.dst = id) = false := decide_eq_false hp
     have hp'' : (t.dst == id) = false := by simp [hp]
     clear hq hqf HS z0 z1 z2
     have hs7 := hB1.size
     go_wp2_with fail
     go_roundw
     case rel => exact ⟨hs7, k + 1, by omega, by go_num, hB1, by rw [HS2.out]; exact ho1⟩
     case measure => simp [intOf]; omega
    have hqb : (t.bond.toList == bond.toList) = false := by rw [bytes_beq]; exact decide_eq_false hq
    have hqc : ¬ t.bond.toList = bond.toList := by rw [bytes_eq]; exact hq
    have HS2 : Hid (endsL (g.ties.take (k + 1)) id bond true = acc) := by
     unfold Hid
     rw [HS.out, decide_eq_false hq]
     simp
    clear hq HS z0 z1 z2
    have hs7 := hB1.size
    go_wp2_with fail
    go_roundw
    case rel => exact ⟨hs7, k + 1, by omega, by go_num, hB1, by rw [HS2.out]; exact ho1⟩
    case measure => simp [intOf]; omega
   ·obtain rfl : k = g.ties.length := by omega
    rw [List.take_length] at hacc
    have HAL : Hid (∀ x ∈ acc, I64 x) := fun x hx => by
     rw [<- hacc] at hx
     unfold endsL at hx
     obtain ⟨t, ht, rfl⟩ := List.mem_map.1 hx
     obtain ⟨i, hi⟩ := List.mem_iff_getElem?.1 (List.mem_filter.1 ht).1
     obtain ⟨b, o, hv, htok, _⟩ := tie_at HG.out.2 hi
     exact endX_i64 htok _
    have HE2 : Hid (endsS g id bond true = sortI acc) := by unfold Hid; rw [HE.out, hacc]
    rw [List.take_length, hacc] at hown
    have hst := sortInts_any acc _ _ _ hown (by omega)
    obtain ⟨Ap, cp, rfl, _, _⟩ := hown.form
    clear hacc
    go_wp2_with fail
    refine hst.mono ?_
    clear hst
    rintro e w5 ⟨rfl, ho5, hg5⟩
    have hb5 : Below W0.heap.size W0 w5 := hbr.grown hg5 (by omega) (fun kk hkk => (hown.lt kk hkk).1)
    clear hown hg5
    go_wp2_with fail
    go_ret
    refine ⟨_, rfl, ?_, ?_, hb0.trans (hb5.mono hw0)⟩
    ·rw [HE2.out]
     rw [sortI_len] at ho5 ⊢
     exact ho5.mono hw0
    ·rw [HE2.out]
     exact fun x hx => HAL.out x ((sortI_perm acc).mem_iff.1 hx)
 | false =>
  go_enter Tryz.func93, Tryz.ntmps93
  go_wp2_with fail
  clear hW0
  go_loopw [9, 15] (fun v i wr => W0.heap.size <= wr.heap.size /\ ∃ k : Nat, k <= g.ties.length /\ i = .int .i64 k /\ Below W0.heap.size W0 wr /\ Own wr W0.heap.size 3 1 v (endsL (g.ties.take k) id bond false).length ((endsL (g.ties.take k) id bond false).map (Value.int .i64))) (fun _ i _ => g.ties.length - (intOf i).toNat)
  case atStart => exact ⟨Nat.le_refl _, 0, Nat.zero_le _, rfl, Below.refl _ _, Own.nil _ _ _ _⟩
  obtain ⟨hsz, k, hk, rfl, hbr, hown⟩ := hrel
  have y1 := cell_below hbr x1
  have hBr := hb0.trans (hbr.mono hw0)
  obtain ⟨acc, hacc⟩ : ∃ acc, endsL (g.ties.take k) id bond false = acc := ⟨_, rfl⟩
  have hal : acc.length <= k := by
   rw [<- hacc]
   exact Nat.le_trans (endsL_len _ _ _ _) (by rw [List.length_take]; omega)
  by_cases hlt : k < g.ties.length
  ·obtain ⟨t, ht⟩ : ∃ t, g.ties[k]? = some t := ⟨_, List.getElem?_eq_getElem hlt⟩
   have hlt' : (k : Int) < (g.ties.length : Int) := by omega
   obtain ⟨b, o, rfl, htok, z0, z1, z2⟩ := tie_at (HG.out.below hbr).2 ht
   have HS : Hid (endsL (g.ties.take (k + 1)) id bond false = acc ++ if decide (t.bond = bond) && (t.src == id) then [t.dst] else []) := by
    have := endsL_take ht id bond false
    rw [hacc] at this
    exact this
   have HX : Hid (I64 (t.dst)) := endX_i64 htok false
   have hbx : Below wr.heap.size wr (wr.alloc (.cells #[.string t.bond, .int .i64 (t.src), .int .i64 (t.dst)] 35)) := (Below.refl _ _).alloc (Nat.le_refl _) _
   obtain ⟨b0, b1, b2⟩ := cell_box3 wr (.string t.bond) (.int .i64 (t.src)) (.int .i64 (t.dst)) 35
   rw [hacc] at hown
   have hn1 : W0.heap.size <= (wr.alloc (.cells #[.string t.bond, .int .i64 (t.src), .int .i64 (t.dst)] 35)).heap.size := by simp; omega
   have HN1 := Lib.hid hn1
   clear ht hacc hn1
   go_upto_region 7 with fail
   generalize wr.alloc (.cells #[.string t.bond, .int .i64 (t.src), .int .i64 (t.dst)] 35) = W1 at *
   have hB1 := hbr.trans (hbx.mono hsz)
   have ho1 := hown.below hbx
   by_cases hq : t.bond = bond
   ·have hqb : (t.bond.toList == bond.toList) = true := by rw [hq]; simp
    have hqd : decide (t.bond.toList = bond.toList) = true := by rw [hq]; simp
    have hqe : t.bond.toList = bond.toList := by rw [hq]
    have hqf : decide (t.bond = bond) = true := decide_eq_true hq
    by_cases hp : t.src = id
    ·have HS2 : Hid (endsL (g.ties.take (k + 1)) id bond false = acc ++ [t.dst]) := by
      unfold Hid
      rw [HS.out, hqf, hp]
      simp
     have hp' : decide (t.src = id) = true := decide_eq_true hp
     have hp'' : (t.src == id) = true := by rw [hp]; simp
     clear hq hqf HS z0 z1 z2
     obtain ⟨Ap, cp, rfl, _, _⟩ := hown.form
     have ho2 := ho1.alloc (.cells #[.int .i64 (t.dst)] 3)
     go_wp2_with (at_builtin; refine wpList_append_q _ rfl (.tmp 36) (.tmp 39) _ rfl W0.heap.size 3 i0 (.int .i64 0) 1 8 Tryz.underlying71 ei ez ez1 ez2 rfl (by decide) (.slice Ap acc.length cp) acc.length (acc.map (Value.int .i64)) rfl ho2 (some ⟨W1.heap.size, 0, none⟩) 1 1 [.int .i64 (t.dst)] rfl rfl (fun _ => ⟨_, rfl, cell_one_new W1 (.int .i64 (t.dst)) 3⟩) (by simp [Value.oneCell']) (by unfold maxLen; omega) (by omega) (by have := HN1.out; simp; omega) ?_; intro v7 w7 hown7 hg7 hat7)
     have hb7 : Below W0.heap.size W0 w7 := (hB1.alloc HN1.out _).grown hg7 (by have := HN1.out; simp; omega) (fun kk hkk => (ho1.lt kk hkk).1)
     have ho7 : Own w7 W0.heap.size 3 1 v7 (acc ++ [t.dst]).length ((acc ++ [t.dst]).map (Value.int .i64)) := by simpa using hown7
     have hs7 := hb7.size
     clear hg7 hat7 hown7
     go_roundw
     case rel => exact ⟨hs7, k + 1, by omega, by go_num, hb7, by rw [HS2.out]; exact ho7⟩
     case measure => simp [intOf]; omega
    have HS2 : Hid (endsL (g.ties.take (k + 1)) id bond false = acc) := by
     unfold Hid
     rw [HS.out, hqf]
     simp [hp]
    have hp' : decide (t.src = id) = false := decide_eq_false hp
    have hp'' : (t.src == id) = false := by simp [hp]
    clear hq hqf HS z0 z1 z2
    have hs7 := hB1.size
    go_wp2_with fail
    go_roundw
    case rel => exact ⟨hs7, k + 1, by omega, by go_num, hB1, by rw [HS2.out]; exact ho1⟩
    case measure => simp [intOf]; omega
   have hqb : (t.bond.toList == bond.toList) = false := by rw [bytes_beq]; exact decide_eq_false hq
   have hqc : ¬ t.bond.toList = bond.toList := by rw [bytes_eq]; exact hq
   have HS2 : Hid (endsL (g.ties.take (k + 1)) id bond false = acc) := by
    unfold Hid
    rw [HS.out, decide_eq_false hq]
    simp
   clear hq HS z0 z1 z2
   have hs7 := hB1.size
   go_wp2_with fail
   go_roundw
   case rel => exact ⟨hs7, k + 1, by omega, by go_num, hB1, by rw [HS2.out]; exact ho1⟩
   case measure => simp [intOf]; omega
  obtain rfl : k = g.ties.length := by omega
  rw [List.take_length] at hacc
  have HAL : Hid (∀ x ∈ acc, I64 x) := fun x hx => by
   rw [<- hacc] at hx
   unfold endsL at hx
   obtain ⟨t, ht, rfl⟩ := List.mem_map.1 hx
   obtain ⟨i, hi⟩ := List.mem_iff_getElem?.1 (List.mem_filter.1 ht).1
   obtain ⟨b, o, hv, htok, _⟩ := tie_at HG.out.2 hi
   exact endX_i64 htok _
  have HE2 : Hid (endsS g id bond false = sortI acc) := by unfold Hid; rw [HE.out, hacc]
  rw [List.take_length, hacc] at hown
  have hst := sortInts_any acc _ _ _ hown (by omega)
  obtain ⟨Ap, cp, rfl, _, _⟩ := hown.form
  clear hacc
  go_wp2_with fail
  refine hst.mono ?_
  clear hst
  rintro e w5 ⟨rfl, ho5, hg5⟩
  have hb5 : Below W0.heap.size W0 w5 := hbr.grown hg5 (by omega) (fun kk hkk => (hown.lt kk hkk).1)
  clear hown hg5
  go_wp2_with fail
  go_ret
  refine ⟨_, rfl, ?_, ?_, hb0.trans (hb5.mono hw0)⟩
  ·rw [HE2.out]
   rw [sortI_len] at ho5 ⊢
   exact ho5.mono hw0
  rw [HE2.out]
  exact fun x hx => HAL.out x ((sortI_perm acc).mem_iff.1 hx)
def keyOf (n : Nod) (f : Fld) : Option Key := match n.props[rpos n.props f.name]? with
 | some p => if f.key = true /\ rhas n.props f.name = true /\ p.v.ty = f.ty then some ⟨f.name, p.v⟩ else none
 | none => none
def keyStep (n : Nod) (acc : List Flt × List Key) (f : Fld) : List Flt × List Key := match keyOf n f with
 | some k => if k ∈ acc.2 then (acc.1 ++ [⟨4, n.id, f.name⟩], acc.2) else (acc.1, acc.2 ++ [k])
 | none => acc
def keysF (n : Nod) (fields : List Fld) (S : List Key) : List Flt × List Key := fields.foldl (keyStep n) ([], S)
def manyF (g : Grf) (n : Nod) (b : Bnd) : Int := ((endsS g n.id b.name false).length : Int)
def bondF (s : Scm) (g : Grf) (n : Nod) (b : Bnd) : List Flt :=
 if isKinB s.kinds n.kind b.src = true then
   (if manyF g n b < b.mn then [⟨7, n.id, b.name⟩] else []) ++ (if 0 <= b.mx /\ b.mx < manyF g n b then [⟨8, n.id, b.name⟩] else [])
 else []
def nodeF (s : Scm) (g : Grf) (S : List Key) (n : Nod) : List Flt × List Key :=
 if kFind s.kinds n.kind < 0 then (aloneF s n, S)
 else (aloneF s n ++ (keysF n (kfl s n.kind) S).1 ++ s.bonds.flatMap (bondF s g n), (keysF n (kfl s n.kind) S).2)
def nodesF (s : Scm) (g : Grf) (l : List Nod) : List Flt × List Key := l.foldl (fun acc n => (acc.1 ++ (nodeF s g acc.2 n).1, (nodeF s g acc.2 n).2)) ([], [])
def tieF (s : Scm) (g : Grf) (t : Tie) : List Flt := match s.bonds[(bFind s.bonds t.bond).toNat]? with
 | some b => if bFind s.bonds t.bond < 0 then [⟨5, t.src, t.bond⟩] else if endB s g t.src b.src = true /\ endB s g t.dst b.dst = true then [] else [⟨6, t.src, t.bond⟩]
 | none => [⟨5, t.src, t.bond⟩]
def ofF (s : Scm) (g : Grf) : List Flt := (nodesF s g g.nodes).1 ++ g.ties.flatMap (tieF s g)
theorem nodesF_snoc (s : Scm) (g : Grf) (l : List Nod) (n : Nod) : nodesF s g (l ++ [n]) = ((nodesF s g l).1 ++ (nodeF s g (nodesF s g l).2 n).1, (nodeF s g (nodesF s g l).2 n).2) := by simp [nodesF]
theorem keysF_snoc (n : Nod) (l : List Fld) (f : Fld) (S : List Key) : keysF n (l ++ [f]) S = keyStep n (keysF n l S) f := by simp [keysF]
theorem keyStep_len (n : Nod) (acc : List Flt × List Key) (f : Fld) : (keyStep n acc f).1.length <= acc.1.length + 1 := by
 unfold keyStep
 split
 ·split <;> simp
 omega
theorem keysFold_len (n : Nod) : ∀ (l : List Fld) (acc : List Flt × List Key), (l.foldl (keyStep n) acc).1.length <= acc.1.length + l.length
 | [], _ => by simp
 | f :: r, acc => by
  have h1 := keysFold_len n r (keyStep n acc f)
  have h2 := keyStep_len n acc f
  simp only [List.foldl_cons, List.length_cons]
  omega
theorem keysF_len (n : Nod) (l : List Fld) (S : List Key) : (keysF n l S).1.length <= l.length := by
 have h := keysFold_len n l ([], S)
 simpa [keysF] using h
theorem aloneF_len (s : Scm) (n : Nod) : (aloneF s n).length <= n.props.length + (kfl s n.kind).length + 1 := by
 unfold aloneF recF
 split
 ·simp
 have h1 := List.length_filter_le (badF (kfl s n.kind)) n.props
 have h2 := List.length_filter_le (lackF n) (kfl s n.kind)
 simp only [List.length_append, List.length_map]
 omega
theorem kfl_len {s : Scm} (h : Right s.kinds) (nm : ByteArray) : (kfl s nm).length <= 8 := by
 unfold kfl
 split
 ·simp
 rename_i hk
 obtain ⟨i, k, _, hk2, hk3, _⟩ := kFind_pos (by omega : 0 <= kFind s.kinds nm)
 obtain ⟨fs, h1, h2⟩ := h.fields (List.mem_of_getElem? hk2)
 rw [hk3] at h1
 rw [h1]
 exact h2
theorem flat_le {D E : Type} {f : D -> List E} {c : Nat} : ∀ {l : List D}, (∀ x ∈ l, (f x).length <= c) -> (l.flatMap f).length <= l.length * c
 | [], _ => by simp
 | x :: r, h => by
  have h1 := h x (by simp)
  have h2 := flat_le (l := r) (fun y hy => h y (by simp [hy]))
  simp only [List.flatMap_cons, List.length_append, List.length_cons, Nat.succ_mul]
  omega
theorem bondF_len (s : Scm) (g : Grf) (n : Nod) (b : Bnd) : (bondF s g n b).length <= 2 := by
 unfold bondF
 split
 ·rw [List.length_append]
  split <;> split <;> simp
 simp
theorem nodeF_len {s : Scm} {g : Grf} {S : List Key} {n : Nod} (hp : n.props.length <= 8) (hk : (kfl s n.kind).length <= 8) (hb : s.bonds.length <= 12) : (nodeF s g S n).1.length <= 60 := by
 have h1 := aloneF_len s n
 have h2 := keysF_len n (kfl s n.kind) S
 have h3 := flat_le (l := s.bonds) (f := bondF s g n) (c := 2) (fun b _ => bondF_len s g n b)
 unfold nodeF
 split
 ·show (aloneF s n).length <= 60
  omega
 simp only [List.length_append]
 omega
theorem nodesF_len {s : Scm} {g : Grf} (hk : ∀ nm, (kfl s nm).length <= 8) (hb : s.bonds.length <= 12) : ∀ (l : List Nod) (acc : List Flt × List Key), (∀ n ∈ l, n.props.length <= 8) -> (l.foldl (fun acc n => (acc.1 ++ (nodeF s g acc.2 n).1, (nodeF s g acc.2 n).2)) acc).1.length <= acc.1.length + l.length * 60
 | [], _, _ => by simp
 | n :: r, acc, h => by
  have h1 := nodesF_len (g := g) hk hb r (acc.1 ++ (nodeF s g acc.2 n).1, (nodeF s g acc.2 n).2) (fun m hm => h m (by simp [hm]))
  have h2 := nodeF_len (g := g) (S := acc.2) (h n (by simp)) (hk n.kind) hb
  simp only [List.length_append] at h1
  simp only [List.foldl_cons, List.length_cons, Nat.succ_mul]
  omega
theorem nodesF_le {s : Scm} {g : Grf} (hk : ∀ nm, (kfl s nm).length <= 8) (hb : s.bonds.length <= 12) (h : ∀ n ∈ g.nodes, n.props.length <= 8) (k : Nat) : (nodesF s g (g.nodes.take k)).1.length <= k * 60 := by
 have h1 := nodesF_len (g := g) hk hb (g.nodes.take k) ([], []) (fun n hn => h n (List.mem_of_mem_take hn))
 have h2 : (g.nodes.take k).length <= k := by rw [List.length_take]; omega
 have h3 : (nodesF s g (g.nodes.take k)).1.length <= 0 + (g.nodes.take k).length * 60 := h1
 have h4 : (g.nodes.take k).length * 60 <= k * 60 := Nat.mul_le_mul_right _ h2
 omega
theorem tieF_len (s : Scm) (g : Grf) (t : Tie) : (tieF s g t).length <= 1 := by
 unfold tieF
 split
 ·split
  ·simp
  split <;> simp
 simp
theorem tieF_le (s : Scm) (g : Grf) (k : Nat) : ((g.ties.take k).flatMap (tieF s g)).length <= k := by
 have h1 := flat_le (l := g.ties.take k) (f := tieF s g) (c := 1) (fun t _ => tieF_len s g t)
 have h2 : (g.ties.take k).length <= k := by rw [List.length_take]; omega
 omega
theorem keyOf_none {n : Nod} {f : Fld} (h : f.key = false \/ rhas n.props f.name = false) : keyOf n f = none := by
 unfold keyOf
 split
 ·rw [if_neg]
  rintro ⟨h1, h2, _⟩
  rcases h with h | h
  ·rw [h] at h1; cases h1
  rw [h] at h2; cases h2
 rfl
theorem keyOf_at {n : Nod} {f : Fld} {p : Prp} (h1 : f.key = true) (h2 : rhas n.props f.name = true) (hp : n.props[rpos n.props f.name]? = some p) : keyOf n f = if p.v.ty = f.ty then some ⟨f.name, p.v⟩ else none := by
 unfold keyOf
 rw [hp]
 simp [h1, h2]
section
variable {P : Program}
end
end Go.Proofs.YtngbbefpphinjaaGreatDoor
