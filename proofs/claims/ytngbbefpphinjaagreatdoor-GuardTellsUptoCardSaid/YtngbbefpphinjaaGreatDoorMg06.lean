/- Parts: RecS, RecT, DeltaP, CloN. -/
import Derived.Test.YtngbbefpphinjaaGreatDoorMg05
import Derived.Test.YtngbbefpphinjaaGreatDoorMg02
import Derived.Test.YtngbbefpphinjaaGreatDoorMg04
/- Contracts: record.Find, record.Get, record.Set. -/
namespace Go.Proofs.YtngbbefpphinjaaGreatDoor
open Go Go.RowKit
theorem clone_prps_info : (Tryz.prog.info? 33).map (fun i => (i.zero, i.size, i.bytes)) = some (some (.agg #[.string .empty, .int .i64 0, .int .i64 0, .string .empty]), 4, 48) := by kernel_rfl
set_option maxHeartbeats 2000000 in
theorem clone_prps {w : World} {v : Value} {l : List Prp} (hv : Sl prpL w v l) (hl : l.length <= 1048576) : Calls Tryz.prog 158 #[v] w (CloneR prpL 33 l w) := by
 obtain ⟨i0, ei, ez, ez1, ez2⟩ := info_parts clone_prps_info
 obtain ⟨A, c, rfl, _, _⟩ := hv.form
 obtain ⟨xs, hr, hx⟩ := Row.of_sl hv
 have hlen := hr.len
 have h1 := hr.oneCell one_prp
 have q22 : ∀ (w : World) (a : Option Addr) (n c n' c' : Nat), (binOp .eql 27 (.slice a n c) (.slice none n' c')).run Tryz.prog w = .ok (.bool a.isNone) w := fun w a n c n' c' => Lib.run_eql_slice_nil w _ _ a n c n' c' Tryz.underlying27
 cases A with
 | none =>
  have h0 : l = [] := by
   rcases Nat.eq_zero_or_pos l.length with h | h
   ·exact List.eq_nil_of_length_eq_zero h
   obtain ⟨_, _, hA, _⟩ := hx h; cases hA
  subst h0
  clear hv hr hx hlen h1
  go_enter Tryz.func158, Tryz.ntmps158
  go_wp2_with fail
  go_ret
  exact ⟨_, [], rfl, Own.nil _ _ _ _, rfl, Below.refl _ _⟩
 | some a =>
  have hX : Hid (0 < l.length -> ∃ b o, (some a : Option Addr) = some ⟨b, o, none⟩ /\ ∀ j u, xs[j]? = some u -> w.cell? ⟨b, o + j, none⟩ = some u) := hx
  have hR := Lib.hid hr
  have hL := Lib.hid hlen
  have h1H := Lib.hid h1
  clear hv hr hx hlen h1
  go_enter Tryz.func158, Tryz.ntmps158
  go_wp2_with (at_builtin; refine wpList_append_q _ rfl (.tmp 5) (.tmp 6) 27 rfl w.heap.size 33 i0 (.agg #[.string .empty, .int .i64 0, .int .i64 0, .string .empty]) 4 48 Tryz.underlying27 ei ez ez1 ez2 rfl (by decide) (.slice (some ⟨w.heap.size, 0, none⟩) 0 0) 0 [] rfl Own.made (some a) l.length c xs rfl hL.out (fun hp => by
   obtain ⟨b, o, hA, hy⟩ := hX.out hp
   exact ⟨_, hA, fun j u hj => by rw [addr_add]; exact cell_below ((Below.refl _ _).alloc (Nat.le_refl _) _) (hy j u hj)⟩) h1H.out (by unfold maxLen; omega) (by omega) (by simp) ?_; intro v7 w7 hown7 hg7 hat7)
  have hb7 : Below w.heap.size w w7 := ((Below.refl _ _).alloc (Nat.le_refl _) _).grown hg7 (by simp) (fun k hk => Nat.le_of_eq (by simpa [Value.ownBlock] using hk))
  simp only [Nat.zero_add, List.nil_append] at hown7
  clear hg7 hat7
  go_ret
  exact ⟨_, xs, rfl, hown7, hR.out, hb7⟩
/-! ### The order of names -/
theorem less_cmp : ∀ (a b : List UInt8), Op.bytesLess a b = decide (Lib.compareBytes a b < 0)
 | [], [] => by simp [Op.bytesLess, Lib.compareBytes]
 | [], _ :: _ => by simp [Op.bytesLess, Lib.compareBytes]
 | _ :: _, [] => by simp [Op.bytesLess, Lib.compareBytes]
 | x :: a, y :: b => by
  rw [Op.bytesLess, Lib.compareBytes, less_cmp a b]
  by_cases h1 : x < y
  ·simp [h1]
  by_cases h2 : y < x
  ·have : x ≠ y := fun e => by subst e; exact absurd h2 h1
   simp [h1, h2, this]
  have e : x = y := by
   apply UInt8.toNat_inj.1
   simp [UInt8.lt_iff_toNat_lt] at h1 h2
   omega
  subst e
  simp [h1]
theorem ltS_cmp (a b : ByteArray) : ltS a b = decide (cmpS a b < 0) := by
 unfold ltS cmpS
 rw [less_cmp, ByteArray.toList_eq, ByteArray.toList_eq]
theorem prpC_mono (nm : ByteArray) : ∀ a b, prpLt a b = true -> 0 <= prpC nm a -> 0 <= prpC nm b := by
 intro a b h h1
 unfold prpLt at h
 rw [ltS_cmp] at h
 unfold prpC at h1 ⊢
 simp at h
 by_cases hb : cmpS b.name nm < 0
 ·have := cmpS_trans h hb; omega
 omega
theorem rec_ok {r : List Prp} (h : recE r = 0) : r.length <= 8 /\ (∀ p ∈ r, prpE p = 0) /\ chain prpLt r = true := by
 unfold recE at h
 by_cases h1 : 8 < r.length
 ·rw [if_pos h1] at h; omega
 rw [if_neg h1] at h
 by_cases h2 : firstE prpE r = 0
 ·rw [if_pos h2] at h
  cases hc : chain (fun a b : Prp => ltS a.name b.name) r with
  | true =>
   refine ⟨by omega, fun p hp => ?_, hc⟩
   have key : ∀ l : List Prp, firstE prpE l = 0 -> ∀ p ∈ l, prpE p = 0 := by
    intro l
    induction l with
    | nil => intro _ p hp; simp at hp
    | cons a l ih =>
     intro h p hp
     rw [firstE] at h
     split at h
     ·rename_i h0
      rcases List.mem_cons.1 hp with rfl | hp
      ·exact h0
      exact ih h p hp
     rename_i h0; exact absurd h h0
   exact key r h2 p hp
  | false => rw [hc] at h; simp at h
 rw [if_neg h2] at h; exact absurd h h2
theorem rfind1_any (d : Prp) (nm : ByteArray) (w : World) :
 Calls Tryz.prog 146 #[.agg #[.string d.name, .int .i64 d.v.ty, .int .i64 d.v.n, .string d.v.s], .string nm] w fun e w' => e = .returned (.int .i64 (cmpS d.name nm)) /\ Below w.heap.size w w' := by
 go_enter Tryz.func146, Tryz.ntmps146
 go_wp2_with (go_at_call 139; refine (scmp_any _ _ _).mono ?_; rintro e w' ⟨rfl, rfl⟩)
 go_ret
 exact ⟨rfl, (Below.refl _ _).alloc (Nat.le_refl _) _⟩
theorem rfind_any (r : List Prp) (nm : ByteArray) (v : Value) (w : World) (hv : Sl prpL w v r) (hc : chain prpLt r = true) (hl : r.length <= 1000) :
 Calls Tryz.prog 90 #[v, .string nm] w fun e w' => e = .returned (.tuple #[.int .i64 (rpos r nm), .bool (rhas r nm)]) /\ Below w.heap.size w w' := by
 have hcall := bs_prp 146 #[] (by intro args w; kernel_rfl) (.string nm) (prpC nm) r v w hv (fun d u wx _ hu => by obtain ⟨rfl, _⟩ := hu; exact rfind1_any d nm wx) (rpos r nm) hl (lowI_le _ _)
  (fun i d hi hd => low_lt hi hd) (fun i d hi hd => low_ge hc (prpC_mono nm) hi hd)
 obtain ⟨A, c, rfl, _, _⟩ := hv.form
 have HE : Hid (rhas r nm = eqAt (prpC nm) r (rpos r nm)) := rfl
 clear hv hc
 generalize eqAt (prpC nm) r (rpos r nm) = B at *
 generalize rpos r nm = K at *
 go_enter Tryz.func90, Tryz.ntmps90
 go_wp2_with fail
 refine hcall.mono ?_
 rintro e w' ⟨rfl, hb⟩
 go_wp2_with fail
 go_ret2
 exact ⟨by rw [HE.out]; rfl, hb⟩
/-! ### record.Get -/
def noVal : Val := ⟨0, 0, .empty⟩
theorem rhas_some {r : List Prp} {nm : ByteArray} (h : rhas r nm = true) : ∃ p, r[rpos r nm]? = some p := by
 unfold rhas eqAt at h
 cases hd : r[rpos r nm]? with
 | none => rw [hd] at h; simp at h
 | some d => exact ⟨d, rfl⟩
theorem flat_set4 (p : Prp) : ∀ (r : List Prp) (i : Nat), i < r.length -> ((((r.flatMap Prp.enc).set (i * 4) (.string p.name)).set (i * 4 + 1) (.int .i64 p.v.ty)).set (i * 4 + 2) (.int .i64 p.v.n)).set (i * 4 + 3) (.string p.v.s) = (r.set i p).flatMap Prp.enc
 | [], i, h => by simp at h
 | a :: r, 0, _ => by simp [Prp.enc]
 | a :: r, i + 1, h => by
  have ih := flat_set4 p r i (by simpa using h)
  have e : (i + 1) * 4 = i * 4 + 4 := by omega
  rw [List.set_cons_succ, List.flatMap_cons, List.flatMap_cons, <- ih, e]
  rfl
def setE (r : List Prp) (p : Prp) : Int := if recE r = 0 then (if prpE p = 0 then (if rhas r p.name then 0 else if 8 <= r.length then 4 else 0) else prpE p) else recE r
def putP (r : List Prp) (p : Prp) : List Prp := if rhas r p.name then r.set (rpos r p.name) p else r.take (rpos r p.name) ++ p :: r.drop (rpos r p.name)
def setR (r : List Prp) (p : Prp) : List Prp := if setE r p = 0 then putP r p else []
def OwnP (w : World) (B : Nat) (v : Value) (l : List Prp) : Prop := Own w B 33 4 v l.length (l.flatMap Prp.enc) /\ ∀ x ∈ l, x.ok
theorem OwnP.nil {w : World} {B : Nat} : OwnP w B (.slice none 0 0) [] := ⟨Own.nil _ _ _ _, fun x hx => by cases hx⟩
def RetO (l : List Prp) (err : Int) (w : World) (e : Ending) (w' : World) : Prop := ∃ v, e = .returned (.tuple #[v, errV err]) /\ OwnP w' w.heap.size v l /\ Below w.heap.size w w'
theorem cell_box4' (w : World) (a b c d : Value) (t : TypeId) : (w.alloc (.cells #[a, b, c, d] t)).cell? ⟨w.heap.size, 0, none⟩ = some a /\ (w.alloc (.cells #[a, b, c, d] t)).cell? ⟨w.heap.size, 1, none⟩ = some b /\
 (w.alloc (.cells #[a, b, c, d] t)).cell? ⟨w.heap.size, 2, none⟩ = some c /\ (w.alloc (.cells #[a, b, c, d] t)).cell? ⟨w.heap.size, 3, none⟩ = some d :=
 ⟨by rw [World.cell?_alloc_at _ _ _ _ rfl]; rfl, by rw [World.cell?_alloc_at _ _ _ _ rfl]; rfl, by rw [World.cell?_alloc_at _ _ _ _ rfl]; rfl, by rw [World.cell?_alloc_at _ _ _ _ rfl]; rfl⟩
set_option maxRecDepth 100000 in
set_option maxHeartbeats 4000000 in
theorem set_own (r : List Prp) (p : Prp) (v : Value) (w : World) (hv : Sl prpL w v r) (hp : p.ok) :
 Calls Tryz.prog 104 #[v, .agg #[.string p.name, .int .i64 p.v.ty, .int .i64 p.v.n, .string p.v.s]] w (RetO (setR r p) (setE r p) w) := by
 have hb0 : Below w.heap.size w (w.alloc (.cells #[.string p.name, .int .i64 p.v.ty, .int .i64 p.v.n, .string p.v.s] 33)) := (Below.refl _ _).alloc (Nat.le_refl _) _
 obtain ⟨z0, z1, z2, z3⟩ := cell_box4' w (.string p.name) (.int .i64 p.v.ty) (.int .i64 p.v.n) (.string p.v.s) 33
 have h1 := recCheck_any r v _ (hv.below hb0)
 have HV := Lib.hid hv
 obtain ⟨A, c, rfl, _, _⟩ := hv.form
 clear hv
 go_enter Tryz.func104, Tryz.ntmps104
 go_wp2_with fail
 refine h1.mono ?_
 clear h1
 rintro e w1 ⟨rfl, hb1⟩
 have hB1 := hb0.trans (hb1.mono hb0.size)
 have y0 := cell_below hb1 z0
 have y1 := cell_below hb1 z1
 have y2 := cell_below hb1 z2
 have y3 := cell_below hb1 z3
 clear z0 z1 z2 z3 hb0 hb1
 by_cases he : recE r = 0
 case neg =>
  have HE : Hid (errV (setE r p) = .iface 122 (.int .i64 (recE r)) /\ setR r p = []) := by
   have h0 : setE r p = recE r := by unfold setE; rw [if_neg he]
   exact ⟨by rw [h0]; exact errV_some he, by unfold setR; rw [h0, if_neg he]⟩
  rw [errV_some he]
  clear he
  go_wp2_with fail
  go_ret2
  exact ⟨.slice none 0 0, by rw [HE.out.1]; rfl, by rw [HE.out.2]; exact OwnP.nil, hB1⟩
 obtain ⟨hl8, _, hch⟩ := rec_ok he
 have HE0 : Hid (setE r p = if prpE p = 0 then (if rhas r p.name then 0 else if 8 <= r.length then 4 else 0) else prpE p) := by unfold Hid setE; rw [if_pos he]
 rw [errV_zero he]
 clear he
 go_wp2_with fail
 refine (prop_any p hp w1).mono ?_
 rintro e w2 ⟨rfl, hb2⟩
 have hB2 := hB1.trans (hb2.mono hB1.size)
 have x0 := cell_below hb2 y0
 have x1 := cell_below hb2 y1
 have x2 := cell_below hb2 y2
 have x3 := cell_below hb2 y3
 clear y0 y1 y2 y3 hb2 hB1
 by_cases he : prpE p = 0
 case neg =>
  have HE : Hid (errV (setE r p) = .iface 122 (.int .i64 (prpE p)) /\ setR r p = []) := by
   have h0 : setE r p = prpE p := by rw [HE0.out, if_neg he]
   exact ⟨by rw [h0]; exact errV_some he, by unfold setR; rw [h0, if_neg he]⟩
  rw [errV_some he]
  clear he
  go_wp2_with fail
  go_ret2
  exact ⟨.slice none 0 0, by rw [HE.out.1]; rfl, by rw [HE.out.2]; exact OwnP.nil, hB2⟩
 have HE : Hid (setE r p = if rhas r p.name then 0 else if 8 <= r.length then 4 else 0) := by unfold Hid; rw [HE0.out, if_pos he]
 rw [errV_zero he]
 have hfd := rfind_any r p.name _ w2 (HV.out.below hB2) hch (by omega)
 clear he hch HE0
 go_wp2_with fail
 refine hfd.mono ?_
 clear hfd
 rintro e w3 ⟨rfl, hb3⟩
 have hB3 := hB2.trans (hb3.mono hB2.size)
 have y0 := cell_below hb3 x0
 have y1 := cell_below hb3 x1
 have y2 := cell_below hb3 x2
 have y3 := cell_below hb3 x3
 have hK := lowI_le (prpC p.name) r
 have h3lt : w.heap.size < w3.heap.size := World.block_lt_of_cell? _ _ y0
 have HP : Hid (putP r p = if rhas r p.name then r.set (rpos r p.name) p else r.take (rpos r p.name) ++ p :: r.drop (rpos r p.name)) := rfl
 have hcl := clone_prps (HV.out.below hB3) (by omega)
 clear x0 x1 x2 x3 hb3 hB2
 go_wp2_with fail
 refine hcl.mono ?_
 clear hcl
 rintro e w4 ⟨v4, xs, rfl, hown, hrow, hb4⟩
 obtain ⟨rfl, hoks⟩ := Row.flat hrow
 have hown : Own w4 w3.heap.size 33 4 v4 r.length (r.flatMap Prp.enc) := hown
 have hB4 := hB3.trans (hb4.mono hB3.size)
 have h34 := hB3.size
 have hl4 := hb4.size
 have x0 := cell_below hb4 y0
 have x1 := cell_below hb4 y1
 have x2 := cell_below hb4 y2
 have x3 := cell_below hb4 y3
 have HO : Hid (∀ q ∈ r, q.ok) := hoks
 clear y0 y1 y2 y3 hrow hoks
 cases hq : rhas r p.name with
 | true =>
  obtain ⟨d, hd⟩ := rhas_some hq
  have hpl := (List.getElem?_eq_some_iff.1 hd).1
  have HF : Hid (setE r p = 0 /\ setR r p = r.set (rpos r p.name) p) := by
   have h0 : setE r p = 0 := by rw [HE.out, hq]; rfl
   exact ⟨h0, by unfold setR; rw [if_pos h0, HP.out, hq]; rfl⟩
  obtain ⟨g, o, c4, rfl, hg1, hg2⟩ := hown.addr (by omega)
  have hS := flat_set4 p r (rpos r p.name) hpl
  have hlen := hown.1
  have s1 := hown.store (rpos r p.name * 4) (by omega) (.string p.name)
  have s2 := s1.store (rpos r p.name * 4 + 1) (by omega) (.int .i64 p.v.ty)
  have s3 := s2.store (rpos r p.name * 4 + 2) (by omega) (.int .i64 p.v.n)
  have s4 := s3.store (rpos r p.name * 4 + 3) (by omega) (.string p.v.s)
  rw [hS] at s4
  obtain ⟨b, o', hA, _, q0, q1, q2, q3⟩ := prp_at (hown.prps HO.out) hd
  injection hA with hA
  injection hA with hA1 hA2
  subst hA1; subst hA2
  have f0 := hown.frozen rfl (o + rpos r p.name * 4)
  have f1 := hown.frozen rfl (o + rpos r p.name * 4 + 1)
  have f2 := hown.frozen rfl (o + rpos r p.name * 4 + 2)
  have f3 := hown.frozen rfl (o + rpos r p.name * 4 + 3)
  have hne : w.heap.size ≠ g := by omega
  have HS4 := Lib.hid s4
  have hpl' : (rpos r p.name : Int) < (r.length : Int) := by omega
  have HL : Hid ((r.set (rpos r p.name) p).length = r.length) := List.length_set ..
  have HO2 : Hid (∀ q ∈ r.set (rpos r p.name) p, q.ok) := fun q hq2 => by
   rcases List.mem_or_eq_of_mem_set hq2 with h | rfl
   ·exact HO.out q h
   exact hp
  generalize rpos r p.name = K at *
  clear hq HE HP hd hS s1 s2 s3 s4 hown
  go_wp2_with fail
  go_ret2
  refine ⟨.slice (some ⟨g, o, none⟩) r.length c4, by rw [HF.out.1, errV_zero rfl]; rfl, ?_, ?_⟩
  ·rw [HF.out.2]
   exact ⟨(Own.mono (by rw [HL.out]; exact HS4.out) h34), HO2.out⟩
  ·exact (((hB4.setCell (p := ⟨g, _, none⟩) (by show w.heap.size <= g; omega) _).setCell (p := ⟨g, _, none⟩) (by show w.heap.size <= g; omega) _).setCell (p := ⟨g, _, none⟩) (by show w.heap.size <= g; omega) _).setCell (p := ⟨g, _, none⟩) (by show w.heap.size <= g; omega) _
 | false =>
  by_cases h8 : 8 <= r.length
  ·have HF : Hid (setE r p = 4 /\ setR r p = []) := by
    have h0 : setE r p = 4 := by rw [HE.out, hq]; simp [h8]
    exact ⟨h0, by unfold setR; rw [h0]; rfl⟩
   have h8' : (8 : Int) <= (r.length : Int) := by omega
   obtain ⟨A4, c4, rfl, _, _⟩ := hown.form
   clear hq HE HP hown
   go_wp2_with fail
   go_ret2
   exact ⟨.slice none 0 0, by rw [HF.out.1]; rfl, by rw [HF.out.2]; exact OwnP.nil, hB4⟩
  have HF : Hid (setE r p = 0 /\ setR r p = r.take (rpos r p.name) ++ p :: r.drop (rpos r p.name)) := by
   have h0 : setE r p = 0 := by rw [HE.out, hq]; simp [h8]
   exact ⟨h0, by unfold setR; rw [if_pos h0, HP.out, hq]; rfl⟩
  have h8' : (r.length : Int) < 8 := by omega
  have hK' : rpos r p.name <= r.length := hK
  have hfi := flat_insert Prp.enc_len r (rpos r p.name) hK' p
  have hil := ins_prp (w4.alloc (.cells #[.string p.name, .int .i64 p.v.ty, .int .i64 p.v.n, .string p.v.s] 33)) w3.heap.size v4 r.length (r.flatMap Prp.enc) (hown.alloc _) (rpos r p.name) hK' w4.heap.size p.enc rfl (heap_alloc_new _ _) p.enc_one (oneCell_flat Prp.enc_one r)
   (fun e => by have := (hown.lt _ e).2; omega) (by simp; omega) (by omega)
  rw [hfi] at hil
  have HOK : Hid (∀ q ∈ r.take (rpos r p.name) ++ p :: r.drop (rpos r p.name), q.ok) := fun q hq2 => by
   rcases List.mem_append.1 hq2 with h | h
   ·exact HO.out q (List.mem_of_mem_take h)
   rcases List.mem_cons.1 h with rfl | h
   ·exact hp
   exact HO.out q (List.mem_of_mem_drop h)
  have HL : Hid ((r.take (rpos r p.name) ++ p :: r.drop (rpos r p.name)).length = r.length + 1) := by unfold Hid; simp; omega
  generalize r.take (rpos r p.name) ++ p :: r.drop (rpos r p.name) = r' at *
  generalize rpos r p.name = K at *
  have HW := Lib.hid hown
  obtain ⟨A4, c4, rfl, _, _⟩ := hown.form
  clear hq HE HP hfi hown
  go_wp2_with fail
  refine hil.mono ?_
  clear hil
  rintro e w5 ⟨v5, rfl, hown5, hg5⟩
  rw [<- HL.out] at hown5
  have hsl := hown5.mono h34
  have hB5 : Below w.heap.size w w5 := (hB4.alloc hB4.size _).grown hg5 (by have := hB4.size; simp; omega) (fun kk e => by have := (HW.out.lt kk e).1; omega)
  obtain ⟨A5, c5, rfl, _, _⟩ := hown5.form
  have HSL := Lib.hid hsl
  clear hg5 hown5 hsl
  go_wp2_with fail
  go_ret2
  exact ⟨.slice A5 r'.length c5, by rw [HF.out.1, errV_zero rfl]; rfl, by rw [HF.out.2]; exact ⟨HSL.out, HOK.out⟩, hB5⟩
structure Opr where
 what : Int
 node : Nod
 prop : Prp
 tie : Tie
def unsetE (r : List Prp) (nm : ByteArray) : Int := if recE r = 0 then (if rhas r nm then 0 else 5) else recE r
def unsetR (r : List Prp) (nm : ByteArray) : List Prp := if unsetE r nm = 0 then r.take (rpos r nm) ++ r.drop (rpos r nm + 1) else []
def bornE (g : Grf) (n : Nod) : Int := if nodE n = 0 then (if fhas g.nodes n.id then 7 else if 60 <= g.nodes.length then 4 else 0) else nodE n
def bornG (g : Grf) (n : Nod) : Grf := ⟨g.nodes.take (fpos g.nodes n.id) ++ n :: g.nodes.drop (fpos g.nodes n.id), g.ties⟩
def touch (id : Int) (t : Tie) : Bool := t.src == id || t.dst == id
def goneG (g : Grf) (id : Int) : Grf := ⟨g.nodes.take (fpos g.nodes id) ++ g.nodes.drop (fpos g.nodes id + 1), g.ties.filter fun t => !touch id t⟩
def recAt (l : List Nod) (id : Int) : List Prp := match l[fpos l id]? with | some n => n.props | none => []
def putRec (l : List Nod) (k : Nat) (r : List Prp) : List Nod := match l[k]? with | some n => l.set k ⟨n.id, n.kind, r⟩ | none => l
def opE (g : Grf) (o : Opr) : Int :=
 if o.what = 1 then bornE g o.node
 else if o.what = 2 then (if fhas g.nodes o.node.id then 0 else 5)
 else if o.what = 3 then (if fhas g.nodes o.node.id then setE (recAt g.nodes o.node.id) o.prop else 5)
 else if o.what = 4 then (if fhas g.nodes o.node.id then unsetE (recAt g.nodes o.node.id) o.prop.name else 5)
 else if o.what = 5 then (if tieE o.tie = 0 then (if thas g.ties o.tie then 7 else if 120 <= g.ties.length then 4 else 0) else tieE o.tie)
 else if o.what = 6 then (if thas g.ties o.tie then 0 else 5)
 else 1
def opG (g : Grf) (o : Opr) : Grf :=
 if o.what = 1 then bornG g o.node
 else if o.what = 2 then goneG g o.node.id
 else if o.what = 3 then ⟨putRec g.nodes (fpos g.nodes o.node.id) (setR (recAt g.nodes o.node.id) o.prop), g.ties⟩
 else if o.what = 4 then ⟨putRec g.nodes (fpos g.nodes o.node.id) (unsetR (recAt g.nodes o.node.id) o.prop.name), g.ties⟩
 else if o.what = 5 then ⟨g.nodes, g.ties.take (tpos g.ties o.tie) ++ o.tie :: g.ties.drop (tpos g.ties o.tie)⟩
 else if o.what = 6 then ⟨g.nodes, g.ties.take (tpos g.ties o.tie) ++ g.ties.drop (tpos g.ties o.tie + 1)⟩
 else g
def doE (g : Grf) (o : Opr) : Int := if grfE g = 0 then opE g o else grfE g
def doG (g : Grf) (o : Opr) : Grf := if doE g o = 0 then opG g o else ⟨[], []⟩
theorem OwnNods.len {w : World} {B : Nat} : ∀ {l : List Nod} {xs : List Value}, OwnNods w B l xs -> xs.length = l.length * 3
 | [], xs, h => by rw [show xs = [] from h]; rfl
 | d :: l, xs, h => by
  obtain ⟨u, ys, rfl, _, _, _, _, h5⟩ := h
  have := h5.len
  simp only [List.length_append, List.length_cons, List.length_nil, this]
  omega
theorem OwnNods.append {w : World} {B : Nat} : ∀ {l m : List Nod} {xs ys : List Value}, OwnNods w B l xs -> OwnNods w B m ys -> OwnNods w B (l ++ m) (xs ++ ys)
 | [], m, xs, ys, h, k => by rw [show xs = [] from h]; exact k
 | d :: l, m, xs, ys, h, k => by
  obtain ⟨u, zs, rfl, h1, h2, h3, h4, h5⟩ := h
  exact ⟨u, zs ++ ys, by simp, h1, h2, h3, h4, h5.append k⟩
theorem OwnNods.split {w : World} {B : Nat} : ∀ {l : List Nod} {xs : List Value} (i : Nat), i <= l.length -> OwnNods w B l xs -> OwnNods w B (l.take i) (xs.take (i * 3)) /\ OwnNods w B (l.drop i) (xs.drop (i * 3))
 | l, xs, 0, _, h => by simp only [List.take_zero, Nat.zero_mul, List.drop_zero]; exact ⟨rfl, h⟩
 | [], xs, i + 1, hi, h => by simp at hi
 | d :: l, xs, i + 1, hi, h => by
  obtain ⟨u, ys, rfl, h1, h2, h3, h4, h5⟩ := h
  obtain ⟨k1, k2⟩ := h5.split i (by simpa using hi)
  have e : (i + 1) * 3 = i * 3 + 1 + 1 + 1 := by omega
  rw [e]
  exact ⟨⟨u, ys.take (i * 3), rfl, h1, h2, h3, h4, k1⟩, k2⟩
theorem OwnNods.one {w : World} {B : Nat} {d : Nod} {u : Value} (h1 : I64 d.id) (h2 : Sm d.kind) (h3 : ∀ p ∈ d.props, p.ok) (h4 : Own w B 33 4 u d.props.length (d.props.flatMap Prp.enc)) :
 OwnNods w B [d] [.int .i64 d.id, .string d.kind, u] := ⟨u, [], rfl, h1, h2, h3, h4, rfl⟩
theorem OwnNods.drop1 {w : World} {B : Nat} {l : List Nod} {xs : List Value} (i : Nat) (hi : i < l.length) (h : OwnNods w B l xs) : OwnNods w B (l.take i ++ l.drop (i + 1)) (xs.take (i * 3) ++ xs.drop ((i + 1) * 3)) :=
 (h.split i (by omega)).1.append (h.split (i + 1) (by omega)).2
theorem OwnNods.insert {w : World} {B : Nat} {l : List Nod} {xs : List Value} {d : Nod} {u : Value} (i : Nat) (hi : i <= l.length) (h : OwnNods w B l xs) (h1 : I64 d.id) (h2 : Sm d.kind) (h3 : ∀ p ∈ d.props, p.ok) (h4 : Own w B 33 4 u d.props.length (d.props.flatMap Prp.enc)) :
 OwnNods w B (l.take i ++ d :: l.drop i) (xs.take (i * 3) ++ [.int .i64 d.id, .string d.kind, u] ++ xs.drop (i * 3)) := by
 have := ((h.split i hi).1.append (OwnNods.one h1 h2 h3 h4)).append (h.split i hi).2
 rw [show l.take i ++ d :: l.drop i = l.take i ++ [d] ++ l.drop i by simp]
 exact this
theorem OwnNods.oneCell {w : World} {B : Nat} {l : List Nod} {xs : List Value} (h : OwnNods w B l xs) : ∀ u ∈ xs, u.oneCell' = true := h.row.oneCell one_nod
theorem OwnNods.get {w : World} {B : Nat} {l : List Nod} {xs : List Value} {i : Nat} {d : Nod} (h : OwnNods w B l xs) (hi : l[i]? = some d) :
 ∃ u, xs[i * 3]? = some (.int .i64 d.id) /\ xs[i * 3 + 1]? = some (.string d.kind) /\ xs[i * 3 + 2]? = some u /\ I64 d.id /\ Sm d.kind /\ (∀ p ∈ d.props, p.ok) /\ Own w B 33 4 u d.props.length (d.props.flatMap Prp.enc) := by
 have hil := (List.getElem?_eq_some_iff.1 hi).1
 have h2 := (h.split i (by omega)).2
 rw [drop_cons hi] at h2
 obtain ⟨u, ys, he, h1, h3, h4, h5, _⟩ := h2
 have hx : ∀ j, xs[i * 3 + j]? = (xs.drop (i * 3))[j]? := fun j => (List.getElem?_drop ..).symm
 refine ⟨u, ?_, ?_, ?_, h1, h3, h4, h5⟩
 ·have := hx 0; rw [Nat.add_zero] at this; rw [this, he]; rfl
 ·rw [hx 1, he]; rfl
 rw [hx 2, he]; rfl
theorem OwnNods.put {w : World} {B : Nat} {r : List Prp} {v : Value} (h3 : ∀ p ∈ r, p.ok) (h4 : Own w B 33 4 v r.length (r.flatMap Prp.enc)) : ∀ {l : List Nod} {xs : List Value} {i : Nat} {d : Nod}, OwnNods w B l xs -> l[i]? = some d -> OwnNods w B (l.set i ⟨d.id, d.kind, r⟩) (xs.set (i * 3 + 2) v)
 | [], xs, i, d, h, hi => by simp at hi
 | e :: l, xs, 0, d, h, hi => by
  simp at hi
  subst hi
  obtain ⟨u, ys, rfl, h1, h2, _, _, h5⟩ := h
  exact ⟨v, ys, rfl, h1, h2, h3, h4, h5⟩
 | e :: l, xs, i + 1, d, h, hi => by
  obtain ⟨u, ys, rfl, h1, h2, k3, k4, h5⟩ := h
  have ih := OwnNods.put h3 h4 h5 (by simpa using hi)
  have e : (i + 1) * 3 + 2 = i * 3 + 2 + 1 + 1 + 1 := by omega
  rw [e]
  exact ⟨u, ys.set (i * 3 + 2) v, rfl, h1, h2, k3, k4, ih⟩
structure OwnG (w : World) (B : Nat) (vn vt : Value) (g : Grf) (xs : List Value) : Prop where
 n : Own w B 29 3 vn g.nodes.length xs
 o : OwnNods w B g.nodes xs
 t : Own w B 35 3 vt g.ties.length (g.ties.flatMap Tie.enc)
 k : ∀ x ∈ g.ties, x.ok
theorem OwnG.r {w : World} {B : Nat} {vn vt : Value} {g : Grf} {xs : List Value} (h : OwnG w B vn vt g xs) : GrfR w vn vt g := ⟨Own.nods h.n h.o, Own.ties h.t h.k⟩
theorem OwnG.below {w w' : World} {B : Nat} {vn vt : Value} {g : Grf} {xs : List Value} (h : OwnG w B vn vt g xs) (hb : Below w.heap.size w w') : OwnG w' B vn vt g xs := ⟨h.n.below hb, h.o.same (.below hb), h.t.below hb, h.k⟩
theorem OwnG.same {w w' : World} {B : Nat} {vn vt : Value} {g : Grf} {xs : List Value} (h : OwnG w B vn vt g xs) (h1 : Same 29 w w') (h2 : Same 33 w w') (h3 : Same 35 w w') : OwnG w' B vn vt g xs :=
 ⟨h.n.same h1, h.o.same h2, h.t.same h3, h.k⟩
theorem OwnG.mono {w : World} {B B' : Nat} {vn vt : Value} {g : Grf} {xs : List Value} (h : OwnG w B vn vt g xs) (hB : B' <= B) : OwnG w B' vn vt g xs := by
 refine ⟨h.n.mono hB, ?_, h.t.mono hB, h.k⟩
 have : ∀ {l : List Nod} {ys : List Value}, OwnNods w B l ys -> OwnNods w B' l ys := by
  intro l
  induction l with
  | nil => intro ys h; exact h
  | cons d l ih =>
   intro ys h
   obtain ⟨u, zs, rfl, h1, h2, h3, h4, h5⟩ := h
   exact ⟨u, zs, rfl, h1, h2, h3, h4.mono hB, ih h5⟩
 exact this h.o
theorem OwnG.nil {w : World} {B : Nat} : OwnG w B (.slice none 0 0) (.slice none 0 0) ⟨[], []⟩ [] := ⟨Own.nil _ _ _ _, rfl, Own.nil _ _ _ _, fun x hx => by cases hx⟩
structure Keep2 (w w' : World) (a b : Value) : Prop where
 s : w.heap.size <= w'.heap.size
 k : ∀ k, k < w.heap.size -> some k ≠ a.ownBlock -> some k ≠ b.ownBlock -> w'.heap[k]? = w.heap[k]?
theorem Keep2.below {w w' : World} {a b : Value} (hb : Below w.heap.size w w') : Keep2 w w' a b := ⟨hb.size, fun k hk _ _ => hb.block k hk⟩
theorem Keep2.then {w w1 w2 : World} {a b : Value} (h : Keep2 w w1 a b) (hb : Below w1.heap.size w1 w2) : Keep2 w w2 a b :=
 ⟨Nat.le_trans h.s hb.size, fun k hk h1 h2 => (hb.block k (Nat.lt_of_lt_of_le hk h.s)).trans (h.k k hk h1 h2)⟩
theorem Keep2.grown1 {w w1 w2 : World} {a b : Value} (h : Keep2 w w1 a b) (hg : w1.grownBy w2 a.ownBlock) : Keep2 w w2 a b :=
 ⟨Nat.le_trans h.s hg.size, fun k hk h1 h2 => (hg.block k (Nat.lt_of_lt_of_le hk h.s) h1).trans (h.k k hk h1 h2)⟩
theorem Keep2.grown2 {w w1 w2 : World} {a b : Value} (h : Keep2 w w1 a b) (hg : w1.grownBy w2 b.ownBlock) : Keep2 w w2 a b :=
 ⟨Nat.le_trans h.s hg.size, fun k hk h1 h2 => (hg.block k (Nat.lt_of_lt_of_le hk h.s) h2).trans (h.k k hk h1 h2)⟩
theorem own_len (A : Option Addr) (n n' c : Nat) : (Value.slice A n c).ownBlock = (Value.slice A n' c).ownBlock := by cases A <;> rfl
theorem Keep2.grown1' {w w1 w2 : World} {A : Option Addr} {n n' c : Nat} {b : Value} (h : Keep2 w w1 (.slice A n c) b) (hg : w1.grownBy w2 (Value.slice A n' c).ownBlock) : Keep2 w w2 (.slice A n c) b := h.grown1 (by rw [own_len A n n' c]; exact hg)
theorem Keep2.grown2' {w w1 w2 : World} {A : Option Addr} {n n' c : Nat} {a : Value} (h : Keep2 w w1 a (.slice A n c)) (hg : w1.grownBy w2 (Value.slice A n' c).ownBlock) : Keep2 w w2 a (.slice A n c) := h.grown2 (by rw [own_len A n n' c]; exact hg)
theorem Keep2.box {w w1 : World} {a b : Value} (h : Keep2 w w1 a b) {p : Addr} (hp : w.heap.size <= p.block) (u : Value) : Keep2 w (w1.setCell p u) a b :=
 ⟨by have := h.s; simp [World.setCell]; omega, fun k hk h1 h2 => (Below.heap_setCell _ _ _ _ (by omega)).trans (h.k k hk h1 h2)⟩
theorem Keep2.own {w w1 : World} {a b : Value} (h : Keep2 w w1 a b) {p : Addr} (hp : a.ownBlock = some p.block) (u : Value) : Keep2 w (w1.setCell p u) a b :=
 ⟨by have := h.s; simp [World.setCell]; omega, fun k hk h1 h2 => (Below.heap_setCell _ _ _ _ (fun e => h1 (by rw [hp, e]))).trans (h.k k hk h1 h2)⟩
def RetOG (B : Nat) (a b : Value) (g : Grf) (err : Int) (w : World) (e : Ending) (w' : World) : Prop :=
 ∃ vn vt, e = .returned (.tuple #[.agg #[vn, vt], errV err]) /\ (err = 0 -> ∃ xs, OwnG w' B vn vt g xs) /\ (∃ A n c A' n' c', vn = .slice A n c /\ vt = .slice A' n' c') /\ Below B w w' /\ Keep2 w w' a b
theorem clone_nods_info : (Tryz.prog.info? 29).map (fun i => (i.zero, i.size, i.bytes)) = some (some (.agg #[.int .i64 0, .string .empty, .slice none 0 0]), 3, 48) := by kernel_rfl
set_option maxHeartbeats 2000000 in
theorem clone_nods {w : World} {A : Option Addr} {n c : Nat} {xs : List Value} (hlen : xs.length = n * 3) (h1 : ∀ u ∈ xs, u.oneCell' = true) (hx : 0 < n -> ∃ b o, A = some ⟨b, o, none⟩ /\ ∀ j u, xs[j]? = some u -> w.cell? ⟨b, o + j, none⟩ = some u) (hl : n <= 1048576) :
 Calls Tryz.prog 109 #[.slice A n c] w fun e w' => ∃ u, e = .returned u /\ Own w' w.heap.size 29 3 u n xs /\ Below w.heap.size w w' := by
 obtain ⟨i0, ei, ez, ez1, ez2⟩ := info_parts clone_nods_info
 have q22 : ∀ (w : World) (a : Option Addr) (n c n' c' : Nat), (binOp .eql 22 (.slice a n c) (.slice none n' c')).run Tryz.prog w = .ok (.bool a.isNone) w := fun w a n c n' c' => Lib.run_eql_slice_nil w _ _ a n c n' c' Tryz.underlying22
 cases A with
 | none =>
  have h0 : n = 0 := by
   rcases Nat.eq_zero_or_pos n with h | h
   ·exact h
   obtain ⟨_, _, hA, _⟩ := hx h; cases hA
  subst h0
  have hx0 : xs = [] := List.eq_nil_of_length_eq_zero (by rw [hlen, Nat.zero_mul])
  subst hx0
  clear hx hlen h1
  go_enter Tryz.func109, Tryz.ntmps109
  go_wp2_with fail
  go_ret
  exact ⟨_, rfl, Own.nil _ _ _ _, Below.refl _ _⟩
 | some a =>
  have hX : Hid (0 < n -> ∃ b o, (some a : Option Addr) = some ⟨b, o, none⟩ /\ ∀ j u, xs[j]? = some u -> w.cell? ⟨b, o + j, none⟩ = some u) := hx
  have hL := Lib.hid hlen
  have h1H := Lib.hid h1
  clear hx hlen h1
  go_enter Tryz.func109, Tryz.ntmps109
  go_wp2_with (at_builtin; refine wpList_append_q _ rfl (.tmp 5) (.tmp 6) 22 rfl w.heap.size 29 i0 (.agg #[.int .i64 0, .string .empty, .slice none 0 0]) 3 48 Tryz.underlying22 ei ez ez1 ez2 rfl (by decide) (.slice (some ⟨w.heap.size, 0, none⟩) 0 0) 0 [] rfl Own.made (some a) n c xs rfl hL.out (fun hp => by
   obtain ⟨b, o, hA, hy⟩ := hX.out hp
   exact ⟨_, hA, fun j u hj => by rw [addr_add]; exact cell_below ((Below.refl _ _).alloc (Nat.le_refl _) _) (hy j u hj)⟩) h1H.out (by unfold maxLen; omega) (by omega) (by simp) ?_; intro v7 w7 hown7 hg7 hat7)
  have hb7 : Below w.heap.size w w7 := ((Below.refl _ _).alloc (Nat.le_refl _) _).grown hg7 (by simp) (fun k hk => Nat.le_of_eq (by simpa [Value.ownBlock] using hk))
  simp only [Nat.zero_add, List.nil_append] at hown7
  clear hg7 hat7
  go_ret
  exact ⟨_, rfl, hown7, hb7⟩
theorem clone_ties_info : (Tryz.prog.info? 35).map (fun i => (i.zero, i.size, i.bytes)) = some (some (.agg #[.string .empty, .int .i64 0, .int .i64 0]), 3, 32) := by kernel_rfl
set_option maxHeartbeats 2000000 in
theorem clone_ties {w : World} {v : Value} {l : List Tie} (hv : Sl tieL w v l) (hl : l.length <= 1048576) : Calls Tryz.prog 108 #[v] w (CloneR tieL 35 l w) := by
 obtain ⟨i0, ei, ez, ez1, ez2⟩ := info_parts clone_ties_info
 obtain ⟨A, c, rfl, _, _⟩ := hv.form
 obtain ⟨xs, hr, hx⟩ := Row.of_sl hv
 have hlen := hr.len
 have h1 := hr.oneCell one_tie
 have q22 : ∀ (w : World) (a : Option Addr) (n c n' c' : Nat), (binOp .eql 23 (.slice a n c) (.slice none n' c')).run Tryz.prog w = .ok (.bool a.isNone) w := fun w a n c n' c' => Lib.run_eql_slice_nil w _ _ a n c n' c' Tryz.underlying23
 cases A with
 | none =>
  have h0 : l = [] := by
   rcases Nat.eq_zero_or_pos l.length with h | h
   ·exact List.eq_nil_of_length_eq_zero h
   obtain ⟨_, _, hA, _⟩ := hx h; cases hA
  subst h0
  clear hv hr hx hlen h1
  go_enter Tryz.func108, Tryz.ntmps108
  go_wp2_with fail
  go_ret
  exact ⟨_, [], rfl, Own.nil _ _ _ _, rfl, Below.refl _ _⟩
 | some a =>
  have hX : Hid (0 < l.length -> ∃ b o, (some a : Option Addr) = some ⟨b, o, none⟩ /\ ∀ j u, xs[j]? = some u -> w.cell? ⟨b, o + j, none⟩ = some u) := hx
  have hR := Lib.hid hr
  have hL := Lib.hid hlen
  have h1H := Lib.hid h1
  clear hv hr hx hlen h1
  go_enter Tryz.func108, Tryz.ntmps108
  go_wp2_with (at_builtin; refine wpList_append_q _ rfl (.tmp 5) (.tmp 6) 23 rfl w.heap.size 35 i0 (.agg #[.string .empty, .int .i64 0, .int .i64 0]) 3 32 Tryz.underlying23 ei ez ez1 ez2 rfl (by decide) (.slice (some ⟨w.heap.size, 0, none⟩) 0 0) 0 [] rfl Own.made (some a) l.length c xs rfl hL.out (fun hp => by
   obtain ⟨b, o, hA, hy⟩ := hX.out hp
   exact ⟨_, hA, fun j u hj => by rw [addr_add]; exact cell_below ((Below.refl _ _).alloc (Nat.le_refl _) _) (hy j u hj)⟩) h1H.out (by unfold maxLen; omega) (by omega) (by simp) ?_; intro v7 w7 hown7 hg7 hat7)
  have hb7 : Below w.heap.size w w7 := ((Below.refl _ _).alloc (Nat.le_refl _) _).grown hg7 (by simp) (fun k hk => Nat.le_of_eq (by simpa [Value.ownBlock] using hk))
  simp only [Nat.zero_add, List.nil_append] at hown7
  clear hg7 hat7
  go_ret
  exact ⟨_, xs, rfl, hown7, hR.out, hb7⟩
set_option maxHeartbeats 1000000 in
theorem ownNode_any (n : Nod) (v : Value) (w : World) (hv : Sl prpL w v n.props) (hl : n.props.length <= 1048576) :
 Calls Tryz.prog 110 #[.agg #[.int .i64 n.id, .string n.kind, v]] w fun e w' => ∃ u, e = .returned (.agg #[.int .i64 n.id, .string n.kind, u]) /\ OwnP w' w.heap.size u n.props /\ Below w.heap.size w w' := by
 have hb0 : Below w.heap.size w ((w.alloc (.cells #[.int .i64 n.id, .string n.kind, v] 29)).alloc (.cells #[.int .i64 0, .string .empty, .slice none 0 0] 29)) := ((Below.refl _ _).alloc (Nat.le_refl _) _).alloc (by simp) _
 have hcl := clone_prps (hv.below hb0) hl
 have g0 : ((w.alloc (.cells #[.int .i64 n.id, .string n.kind, v] 29)).alloc (.cells #[.int .i64 0, .string .empty, .slice none 0 0] 29)).heap[w.heap.size]? = some (.cells #[.int .i64 n.id, .string n.kind, v] 29 (0, 0)) := by
  rw [Below.heap_alloc _ _ _ (by simp)]; exact heap_alloc_new _ _
 have g1 : ((w.alloc (.cells #[.int .i64 n.id, .string n.kind, v] 29)).alloc (.cells #[.int .i64 0, .string .empty, .slice none 0 0] 29)).heap[w.heap.size + 1]? = some (.cells #[.int .i64 0, .string .empty, .slice none 0 0] 29 (0, 0)) := by
  have := heap_alloc_new (w.alloc (.cells #[.int .i64 n.id, .string n.kind, v] 29)) (.cells #[.int .i64 0, .string .empty, .slice none 0 0] 29); simpa using this
 have x0 := block_cell g0 0
 have x1 := block_cell g0 1
 have x2 := block_cell g0 2
 have hsz : ((w.alloc (.cells #[.int .i64 n.id, .string n.kind, v] 29)).alloc (.cells #[.int .i64 0, .string .empty, .slice none 0 0] 29)).heap.size = w.heap.size + 2 := by simp
 obtain ⟨A, c, rfl, _, _⟩ := hv.form
 clear hv
 go_enter Tryz.func110, Tryz.ntmps110
 go_wp2_with fail
 refine hcl.mono ?_
 clear hcl
 rintro e w2 ⟨u, xs, rfl, hown, hrow, hb2⟩
 obtain ⟨rfl, hok⟩ := Row.flat hrow
 have hown := Own.mono (B' := w.heap.size) hown (by rw [hsz]; omega)
 have HK := Lib.hid hok
 have g2 := (hb2.block _ (geB g0)).trans g0
 have g3 := (hb2.block _ (geB g1)).trans g1
 have y0 := block_cell g2 0
 have y1 := block_cell g2 1
 have y2 := block_cell g2 2
 have y3 := block_cell g3 0
 have y4 := block_cell g3 1
 have y5 := block_cell g3 2
 have f2 := block_free g2 2
 have f3 := block_free g3 0
 have f4 := block_free g3 1
 have f5 := block_free g3 2
 have hB2 := hb0.trans (hb2.mono hb0.size)
 have HO : Hid (∀ W, Same 33 w2 W -> OwnP W w.heap.size u n.props) := fun W hs => ⟨Own.same hown hs, HK.out⟩
 obtain ⟨A2, c2, rfl, _, _⟩ := hown.form
 have hsame : ∀ W : World, W = ((((w2.setCell ⟨w.heap.size, 2, none⟩ (.slice A2 n.props.length c2)).setCell ⟨w.heap.size + 1, 0, none⟩ (.int .i64 n.id)).setCell ⟨w.heap.size + 1, 1, none⟩ (.string n.kind)).setCell ⟨w.heap.size + 1, 2, none⟩ (.slice A2 n.props.length c2)) -> Same 33 w2 W := by
  rintro W rfl
  have k0 := setCell_block g2 2 (.slice A2 n.props.length c2)
  have s0 := Same.setCell (T := 33) (p := ⟨w.heap.size, 2, none⟩) g2 (by decide) (.slice A2 n.props.length c2)
  have k1 : (w2.setCell ⟨w.heap.size, 2, none⟩ (.slice A2 n.props.length c2)).heap[w.heap.size + 1]? = some (.cells #[.int .i64 0, .string .empty, .slice none 0 0] 29 (0, 0)) := by rw [Below.heap_setCell _ _ _ _ (by simp)]; exact g3
  have s1 := Same.setCell (T := 33) (p := ⟨w.heap.size + 1, 0, none⟩) k1 (by decide) (.int .i64 n.id)
  have k2 := setCell_block k1 0 (.int .i64 n.id)
  have s2 := Same.setCell (T := 33) (p := ⟨w.heap.size + 1, 1, none⟩) k2 (by decide) (.string n.kind)
  have k3 := setCell_block k2 1 (.string n.kind)
  have s3 := Same.setCell (T := 33) (p := ⟨w.heap.size + 1, 2, none⟩) k3 (by decide) (.slice A2 n.props.length c2)
  exact s0.trans (s1.trans (s2.trans s3))
 have HS := Lib.hid hsame
 have G3 := Lib.hid g3
 clear hown hrow hok g0 g1 g2 g3 x0 x1 x2 hsame
 go_wp2_with fail
 have h3 : ((((w2.setCell ⟨w.heap.size, 2, none⟩ (.slice A2 n.props.length c2)).setCell ⟨w.heap.size + 1, 0, none⟩ (.int .i64 n.id)).setCell ⟨w.heap.size + 1, 1, none⟩ (.string n.kind)).setCell ⟨w.heap.size + 1, 2, none⟩ (.slice A2 n.props.length c2)).heap[w.heap.size + 1]? = some (.cells #[.int .i64 n.id, .string n.kind, .slice A2 n.props.length c2] 29 (0, 0)) := by
  have k1 : (w2.setCell ⟨w.heap.size, 2, none⟩ (.slice A2 n.props.length c2)).heap[w.heap.size + 1]? = some (.cells #[.int .i64 0, .string .empty, .slice none 0 0] 29 (0, 0)) := by rw [Below.heap_setCell _ _ _ _ (by simp)]; exact G3.out
  exact setCell_block (setCell_block (setCell_block k1 0 (.int .i64 n.id)) 1 (.string n.kind)) 2 (.slice A2 n.props.length c2)
 have k2 := block_cell h3 0
 have k3 := block_cell h3 1
 have k4 := block_cell h3 2
 exact bodyPost_ret (v := .agg #[.int .i64 n.id, .string n.kind, .slice A2 n.props.length c2]) (by simp [results, Tryz.results110, go_sem, k2, k3, k4]) rfl ⟨_, rfl, HO.out _ (HS.out _ rfl), (((hB2.setCell (p := ⟨w.heap.size, 2, none⟩) (Nat.le_refl _) _).setCell (p := ⟨w.heap.size + 1, 0, none⟩) (by show w.heap.size <= w.heap.size + 1; omega) _).setCell (p := ⟨w.heap.size + 1, 1, none⟩) (by show w.heap.size <= w.heap.size + 1; omega) _).setCell (p := ⟨w.heap.size + 1, 2, none⟩) (by show w.heap.size <= w.heap.size + 1; omega) _⟩
end Go.Proofs.YtngbbefpphinjaaGreatDoor
