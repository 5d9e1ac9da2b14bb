/- Parts: RecS, RecT, DeltaP, CloN, DelO. -/
import Derived.Test.YtdmpkgiijddcdaaGreatDoorMg06
import Derived.Test.YtdmpkgiijddcdaaGreatDoorMg04
import Derived.Test.YtdmpkgiijddcdaaGreatDoorMg05
/- Contracts: record.Find, record.Get, record.Set. -/
namespace Go.Proofs.YtdmpkgiijddcdaaGreatDoor
open Go Go.RowKit


theorem clone_prps_info : (Tryz.prog.info? 62).map (fun i => (i.zero, i.size, i.bytes)) = some (some (.agg #[.string .empty, .int .i64 0, .int .i64 0, .string .empty]), 4, 48) := by kernel_rfl
set_option maxHeartbeats 2000000 in
theorem clone_prps {w : World} {v : Value} {l : List Prp} (hv : Sl prpL w v l) (hl : l.length ≤ 1048576) : Calls Tryz.prog 78 #[v] w (CloneR prpL 62 l w) := by
  obtain ⟨i0, ei, ez, ez1, ez2⟩ := info_parts clone_prps_info
  obtain ⟨A, c, rfl, _, _⟩ := hv.form
  obtain ⟨xs, hr, hx⟩ := Row.of_sl hv
  have hlen := hr.len
  have h1 := hr.oneCell one_prp
  have q22 : ∀ (w : World) (a : Option Addr) (n c n' c' : Nat), (binOp .eql 60 (.slice a n c) (.slice none n' c')).run Tryz.prog w = .ok (.bool a.isNone) w := fun w a n c n' c' => Lib.run_eql_slice_nil w _ _ a n c n' c' Tryz.underlying60
  cases A with
  | none =>
    have h0 : l = [] := by
      rcases Nat.eq_zero_or_pos l.length with h | h
      · exact List.eq_nil_of_length_eq_zero h
      · obtain ⟨_, _, hA, _⟩ := hx h; cases hA
    subst h0
    clear hv hr hx hlen h1
    go_enter Tryz.func78, Tryz.ntmps78
    go_wp2_with fail
    go_ret
    exact ⟨_, [], rfl, Own.nil _ _ _ _, rfl, Below.refl _ _⟩
  | some a =>
    have hX : Hid (0 < l.length → ∃ b o, (some a : Option Addr) = some ⟨b, o, none⟩ ∧ ∀ j u, xs[j]? = some u → w.cell? ⟨b, o + j, none⟩ = some u) := hx
    have hR := Lib.hid hr
    have hL := Lib.hid hlen
    have h1H := Lib.hid h1
    clear hv hr hx hlen h1
    go_enter Tryz.func78, Tryz.ntmps78
    go_wp2_with (at_builtin; refine wpList_append_q _ rfl (.tmp 5) (.tmp 6) 60 rfl w.heap.size 62 i0 (.agg #[.string .empty, .int .i64 0, .int .i64 0, .string .empty]) 4 48 Tryz.underlying60 ei ez ez1 ez2 rfl (by decide) (.slice (some ⟨w.heap.size, 0, none⟩) 0 0) 0 [] rfl Own.made (some a) l.length c xs rfl hL.out (fun hp => by
        obtain ⟨b, o, hA, hy⟩ := hX.out hp
        exact ⟨_, hA, fun j u hj => by rw [addr_add]; exact cell_below ((Below.refl _ _).alloc (Nat.le_refl _) _) (hy j u hj)⟩) h1H.out (by unfold maxLen; omega) (by omega) (by simp) ?_; intro v7 w7 hown7 hg7 hat7)
    have hb7 : Below w.heap.size w w7 := ((Below.refl _ _).alloc (Nat.le_refl _) _).grown hg7 (by simp) (fun k hk => Nat.le_of_eq (by simpa [Value.ownBlock] using hk))
    simp only [Nat.zero_add, List.nil_append] at hown7
    clear hg7 hat7
    go_ret
    exact ⟨_, xs, rfl, hown7, hR.out, hb7⟩

/-! ### The order of names -/
theorem less_cmp : ∀ (a b : List UInt8), Op.bytesLess a b = decide (Lib.compareBytes a b < 0)
  | [], [] => by simp [Op.bytesLess, Lib.compareBytes]
  | [], _ :: _ => by simp [Op.bytesLess, Lib.compareBytes]
  | _ :: _, [] => by simp [Op.bytesLess, Lib.compareBytes]
  | x :: a, y :: b => by
    rw [Op.bytesLess, Lib.compareBytes, less_cmp a b]
    by_cases h1 : x < y
    · simp [h1]
    · by_cases h2 : y < x
      · have : x ≠ y := fun e => by subst e; exact absurd h2 h1
        simp [h1, h2, this]
      · have e : x = y := by
          apply UInt8.toNat_inj.1
          simp [UInt8.lt_iff_toNat_lt] at h1 h2
          omega
        subst e
        simp [h1]
theorem ltS_cmp (a b : ByteArray) : ltS a b = decide (cmpS a b < 0) := by
  unfold ltS cmpS
  rw [less_cmp, ByteArray.toList_eq, ByteArray.toList_eq]
theorem prpC_mono (nm : ByteArray) : ∀ a b, prpLt a b = true → 0 ≤ prpC nm a → 0 ≤ prpC nm b := by
  intro a b h h1
  unfold prpLt at h
  rw [ltS_cmp] at h
  unfold prpC at h1 ⊢
  simp at h
  by_cases hb : cmpS b.name nm < 0
  · have := cmpS_trans h hb; omega
  · omega
theorem rec_ok {r : List Prp} (h : recE r = 0) : r.length ≤ 8 ∧ (∀ p ∈ r, prpE p = 0) ∧ chain prpLt r = true := by
  unfold recE at h
  by_cases h1 : 8 < r.length
  · rw [if_pos h1] at h; omega
  rw [if_neg h1] at h
  by_cases h2 : firstE prpE r = 0
  · rw [if_pos h2] at h
    cases hc : chain (fun a b : Prp => ltS a.name b.name) r with
    | true =>
      refine ⟨by omega, fun p hp => ?_, hc⟩
      have key : ∀ l : List Prp, firstE prpE l = 0 → ∀ p ∈ l, prpE p = 0 := by
        intro l
        induction l with
        | nil => intro _ p hp; simp at hp
        | cons a l ih =>
          intro h p hp
          rw [firstE] at h
          split at h
          · rename_i h0
            rcases List.mem_cons.1 hp with rfl | hp
            · exact h0
            · exact ih h p hp
          · rename_i h0; exact absurd h h0
      exact key r h2 p hp
    | false => rw [hc] at h; simp at h
  · rw [if_neg h2] at h; exact absurd h h2
theorem rfind1_any (d : Prp) (nm : ByteArray) (w : World) :
    Calls Tryz.prog 126 #[.agg #[.string d.name, .int .i64 d.v.ty, .int .i64 d.v.n, .string d.v.s], .string nm] w fun e w' => e = .returned (.int .i64 (cmpS d.name nm)) ∧ Below w.heap.size w w' := by
  go_enter Tryz.func126, Tryz.ntmps126
  go_wp2_with (go_at_call 124; refine (scmp_any _ _ _).mono ?_; rintro e w' ⟨rfl, rfl⟩)
  go_ret
  exact ⟨rfl, (Below.refl _ _).alloc (Nat.le_refl _) _⟩
theorem rfind_any (r : List Prp) (nm : ByteArray) (v : Value) (w : World) (hv : Sl prpL w v r) (hc : chain prpLt r = true) (hl : r.length ≤ 1000) :
    Calls Tryz.prog 77 #[v, .string nm] w fun e w' => e = .returned (.tuple #[.int .i64 (rpos r nm), .bool (rhas r nm)]) ∧ Below w.heap.size w w' := by
  have hcall := bs_prp 126 #[] (by intro args w; kernel_rfl) (.string nm) (prpC nm) r v w hv (fun d u wx _ hu => by obtain ⟨rfl, _⟩ := hu; exact rfind1_any d nm wx) (rpos r nm) hl (lowI_le _ _)
    (fun i d hi hd => low_lt hi hd) (fun i d hi hd => low_ge hc (prpC_mono nm) hi hd)
  obtain ⟨A, c, rfl, _, _⟩ := hv.form
  have HE : Hid (rhas r nm = eqAt (prpC nm) r (rpos r nm)) := rfl
  clear hv hc
  generalize eqAt (prpC nm) r (rpos r nm) = B at *
  generalize rpos r nm = K at *
  go_enter Tryz.func77, Tryz.ntmps77
  go_wp2_with fail
  refine hcall.mono ?_
  rintro e w' ⟨rfl, hb⟩
  go_wp2_with fail
  go_ret2
  exact ⟨by rw [HE.out]; rfl, hb⟩

/-! ### record.Get -/
theorem res3 {w w1 : World} {T : TypeId} {c0 c1 c2 : Value} (a b c : Value) (hB : Below w.heap.size w w1) (h : w1.heap[w.heap.size]? = some (.cells #[c0, c1, c2] T (0, 0))) :
    Below w.heap.size w (((w1.setCell ⟨w.heap.size, 0, none⟩ a).setCell ⟨w.heap.size, 1, none⟩ b).setCell ⟨w.heap.size, 2, none⟩ c) ∧
    (((w1.setCell ⟨w.heap.size, 0, none⟩ a).setCell ⟨w.heap.size, 1, none⟩ b).setCell ⟨w.heap.size, 2, none⟩ c).cell? ⟨w.heap.size, 0, none⟩ = some a ∧
    (((w1.setCell ⟨w.heap.size, 0, none⟩ a).setCell ⟨w.heap.size, 1, none⟩ b).setCell ⟨w.heap.size, 2, none⟩ c).cell? ⟨w.heap.size, 1, none⟩ = some b ∧
    (((w1.setCell ⟨w.heap.size, 0, none⟩ a).setCell ⟨w.heap.size, 1, none⟩ b).setCell ⟨w.heap.size, 2, none⟩ c).cell? ⟨w.heap.size, 2, none⟩ = some c := by
  have h3 := setCell_block (setCell_block (setCell_block h 0 a) 1 b) 2 c
  exact ⟨((hB.setCell (p := ⟨_, 0, none⟩) (Nat.le_refl _) _).setCell (p := ⟨_, 1, none⟩) (Nat.le_refl _) _).setCell (p := ⟨_, 2, none⟩) (Nat.le_refl _) _, block_cell h3 0, block_cell h3 1, block_cell h3 2⟩
def getE (r : List Prp) (nm : ByteArray) : Int := if recE r = 0 then (if rhas r nm then 0 else 5) else recE r
def noVal : Val := ⟨0, 0, .empty⟩
def getV (r : List Prp) (nm : ByteArray) : Val := if getE r nm = 0 then (match r[rpos r nm]? with | some p => p.v | none => noVal) else noVal
theorem rhas_some {r : List Prp} {nm : ByteArray} (h : rhas r nm = true) : ∃ p, r[rpos r nm]? = some p := by
  unfold rhas eqAt at h
  cases hd : r[rpos r nm]? with
  | none => rw [hd] at h; simp at h
  | some d => exact ⟨d, rfl⟩
set_option maxHeartbeats 2000000 in
theorem get_any (r : List Prp) (nm : ByteArray) (v : Value) (w : World) (hv : Sl prpL w v r) :
    Calls Tryz.prog 25 #[v, .string nm] w fun e w' => e = .returned (.tuple #[.agg #[.int .i64 (getV r nm).ty, .int .i64 (getV r nm).n, .string (getV r nm).s], errV (getE r nm)]) ∧ Below w.heap.size w w' := by
  have hb0 : Below w.heap.size w (w.alloc (.cells #[.int .i64 0, .int .i64 0, .string .empty] 43)) := (Below.refl _ _).alloc (Nat.le_refl _) _
  have hbk := heap_alloc_new w (.cells #[.int .i64 0, .int .i64 0, .string .empty] 43)
  have h1 := recCheck_any r v _ (hv.below hb0)
  have HV := Lib.hid hv
  obtain ⟨A, c, rfl, _, _⟩ := hv.form
  clear hv
  go_enter Tryz.func25, Tryz.ntmps25
  go_wp2_with fail
  refine h1.mono ?_
  clear h1
  rintro e w1 ⟨rfl, hb1⟩
  have hB1 := hb0.trans (hb1.mono hb0.size)
  have hb1k := (hb1.block _ (Array.getElem?_eq_some_iff.1 hbk).1).trans hbk
  clear hb0 hb1 hbk
  by_cases he : recE r = 0
  case neg =>
    have HE : Hid (errV (getE r nm) = .iface 118 (.int .i64 (recE r)) ∧ getV r nm = noVal) := by
      have h0 : getE r nm = recE r := by unfold getE; rw [if_neg he]
      exact ⟨by rw [h0]; exact errV_some he, by unfold getV; rw [h0, if_neg he]⟩
    obtain ⟨k1, k2, k3, k4⟩ := res3 (.int .i64 0) (.int .i64 0) (.string ⟨#[]⟩) hB1 hb1k
    have y0 := block_cell hb1k 0
    have y1 := block_cell hb1k 1
    have y2 := block_cell hb1k 2
    have g0 := block_free hb1k 0
    have g1 := block_free hb1k 1
    have g2 := block_free hb1k 2
    rw [errV_some he]
    clear he hb1k
    go_wp2_with fail
    exact bodyPost_ret (v := .tuple #[.agg #[.int .i64 0, .int .i64 0, .string ⟨#[]⟩], .iface 118 (.int .i64 (recE r))]) (by simp [results, Tryz.results25, go_sem, k2, k3, k4]) rfl ⟨by rw [HE.out.1, HE.out.2]; rfl, k1⟩
  obtain ⟨hl8, _, hch⟩ := rec_ok he
  have HE : Hid (getE r nm = if rhas r nm then 0 else 5) := by unfold Hid getE; rw [if_pos he]
  rw [errV_zero he]
  have hfd := rfind_any r nm _ w1 (HV.out.below hB1) hch (by omega)
  clear he hch
  go_wp2_with fail
  refine hfd.mono ?_
  clear hfd
  rintro e w2 ⟨rfl, hb2⟩
  have hB2 := hB1.trans (hb2.mono hB1.size)
  have hb2k := (hb2.block _ (Array.getElem?_eq_some_iff.1 hb1k).1).trans hb1k
  have y0 := block_cell hb2k 0
  have y1 := block_cell hb2k 1
  have y2 := block_cell hb2k 2
  have g0 := block_free hb2k 0
  have g1 := block_free hb2k 1
  have g2 := block_free hb2k 2
  cases hq : rhas r nm with
  | false =>
    have HF : Hid (getE r nm = 5 ∧ getV r nm = noVal) := by
      have h0 : getE r nm = 5 := by rw [HE.out, hq]; rfl
      exact ⟨h0, by unfold getV; rw [h0]; rfl⟩
    obtain ⟨k1, k2, k3, k4⟩ := res3 (.int .i64 0) (.int .i64 0) (.string ⟨#[]⟩) hB2 hb2k
    clear hq HE hb1k hb2k
    go_wp2_with fail
    exact bodyPost_ret (v := .tuple #[.agg #[.int .i64 0, .int .i64 0, .string ⟨#[]⟩], .iface 118 (.int .i64 5)]) (by simp [results, Tryz.results25, go_sem, k2, k3, k4]) rfl ⟨by rw [HF.out.1, HF.out.2]; rfl, k1⟩
  | true =>
    obtain ⟨p, hp⟩ := rhas_some hq
    have HF : Hid (getE r nm = 0 ∧ getV r nm = p.v) := by
      have h0 : getE r nm = 0 := by rw [HE.out, hq]; rfl
      exact ⟨h0, by unfold getV; rw [if_pos h0, hp]⟩
    obtain ⟨k1, k2, k3, k4⟩ := res3 (.int .i64 p.v.ty) (.int .i64 p.v.n) (.string p.v.s) hB2 hb2k
    have hpl := (List.getElem?_eq_some_iff.1 hp).1
    obtain ⟨b, o, rfl, _, x0, x1, x2, x3⟩ := prp_at (HV.out.below hB2) hp
    generalize rpos r nm = K at *
    have hpl' : (K : Int) < (r.length : Int) := by omega
    clear hq HE hp hb1k hb2k
    go_wp2_with fail
    exact bodyPost_ret (v := .tuple #[.agg #[.int .i64 p.v.ty, .int .i64 p.v.n, .string p.v.s], .nilIface]) (by simp [results, Tryz.results25, go_sem, k2, k3, k4]) rfl ⟨by rw [HF.out.1, HF.out.2, errV_zero rfl], k1⟩

theorem flat_set4 (p : Prp) : ∀ (r : List Prp) (i : Nat), i < r.length → ((((r.flatMap Prp.enc).set (i * 4) (.string p.name)).set (i * 4 + 1) (.int .i64 p.v.ty)).set (i * 4 + 2) (.int .i64 p.v.n)).set (i * 4 + 3) (.string p.v.s) = (r.set i p).flatMap Prp.enc
  | [], i, h => by simp at h
  | a :: r, 0, _ => by simp [Prp.enc]
  | a :: r, i + 1, h => by
    have ih := flat_set4 p r i (by simpa using h)
    have e : (i + 1) * 4 = i * 4 + 4 := by omega
    rw [List.set_cons_succ, List.flatMap_cons, List.flatMap_cons, ← ih, e]
    rfl
def setE (r : List Prp) (p : Prp) : Int := if recE r = 0 then (if prpE p = 0 then (if rhas r p.name then 0 else if 8 ≤ r.length then 4 else 0) else prpE p) else recE r
def putP (r : List Prp) (p : Prp) : List Prp := if rhas r p.name then r.set (rpos r p.name) p else r.take (rpos r p.name) ++ p :: r.drop (rpos r p.name)
def setR (r : List Prp) (p : Prp) : List Prp := if setE r p = 0 then putP r p else []
/-- A record and an error. -/
def RetR (l : List Prp) (err : Int) (w : World) (e : Ending) (w' : World) : Prop := ∃ v, e = .returned (.tuple #[v, errV err]) ∧ Sl prpL w' v l ∧ Below w.heap.size w w'
/-- A record that is the call's own. -/
def OwnP (w : World) (B : Nat) (v : Value) (l : List Prp) : Prop := Own w B 62 4 v l.length (l.flatMap Prp.enc) ∧ ∀ x ∈ l, x.ok
theorem OwnP.nil {w : World} {B : Nat} : OwnP w B (.slice none 0 0) [] := ⟨Own.nil _ _ _ _, fun x hx => by cases hx⟩
/-- The same, the record the call's own. -/
def RetO (l : List Prp) (err : Int) (w : World) (e : Ending) (w' : World) : Prop := ∃ v, e = .returned (.tuple #[v, errV err]) ∧ OwnP w' w.heap.size v l ∧ Below w.heap.size w w'
theorem RetO.r {l : List Prp} {err : Int} {w w' : World} {e : Ending} (h : RetO l err w e w') : RetR l err w e w' := by
  obtain ⟨v, h1, h2, h3⟩ := h
  exact ⟨v, h1, h2.1.prps h2.2, h3⟩
theorem cell_box4' (w : World) (a b c d : Value) (t : TypeId) : (w.alloc (.cells #[a, b, c, d] t)).cell? ⟨w.heap.size, 0, none⟩ = some a ∧ (w.alloc (.cells #[a, b, c, d] t)).cell? ⟨w.heap.size, 1, none⟩ = some b ∧
    (w.alloc (.cells #[a, b, c, d] t)).cell? ⟨w.heap.size, 2, none⟩ = some c ∧ (w.alloc (.cells #[a, b, c, d] t)).cell? ⟨w.heap.size, 3, none⟩ = some d :=
  ⟨by rw [World.cell?_alloc_at _ _ _ _ rfl]; rfl, by rw [World.cell?_alloc_at _ _ _ _ rfl]; rfl, by rw [World.cell?_alloc_at _ _ _ _ rfl]; rfl, by rw [World.cell?_alloc_at _ _ _ _ rfl]; rfl⟩
set_option maxRecDepth 100000 in
set_option maxHeartbeats 4000000 in
theorem set_own (r : List Prp) (p : Prp) (v : Value) (w : World) (hv : Sl prpL w v r) (hp : p.ok) :
    Calls Tryz.prog 27 #[v, .agg #[.string p.name, .int .i64 p.v.ty, .int .i64 p.v.n, .string p.v.s]] w (RetO (setR r p) (setE r p) w) := by
  have hb0 : Below w.heap.size w (w.alloc (.cells #[.string p.name, .int .i64 p.v.ty, .int .i64 p.v.n, .string p.v.s] 62)) := (Below.refl _ _).alloc (Nat.le_refl _) _
  obtain ⟨z0, z1, z2, z3⟩ := cell_box4' w (.string p.name) (.int .i64 p.v.ty) (.int .i64 p.v.n) (.string p.v.s) 62
  have h1 := recCheck_any r v _ (hv.below hb0)
  have HV := Lib.hid hv
  obtain ⟨A, c, rfl, _, _⟩ := hv.form
  clear hv
  go_enter Tryz.func27, Tryz.ntmps27
  go_wp2_with fail
  refine h1.mono ?_
  clear h1
  rintro e w1 ⟨rfl, hb1⟩
  have hB1 := hb0.trans (hb1.mono hb0.size)
  have y0 := cell_below hb1 z0
  have y1 := cell_below hb1 z1
  have y2 := cell_below hb1 z2
  have y3 := cell_below hb1 z3
  clear z0 z1 z2 z3 hb0 hb1
  by_cases he : recE r = 0
  case neg =>
    have HE : Hid (errV (setE r p) = .iface 118 (.int .i64 (recE r)) ∧ setR r p = []) := by
      have h0 : setE r p = recE r := by unfold setE; rw [if_neg he]
      exact ⟨by rw [h0]; exact errV_some he, by unfold setR; rw [h0, if_neg he]⟩
    rw [errV_some he]
    clear he
    go_wp2_with fail
    go_ret2
    exact ⟨.slice none 0 0, by rw [HE.out.1]; rfl, by rw [HE.out.2]; exact OwnP.nil, hB1⟩
  obtain ⟨hl8, _, hch⟩ := rec_ok he
  have HE0 : Hid (setE r p = if prpE p = 0 then (if rhas r p.name then 0 else if 8 ≤ r.length then 4 else 0) else prpE p) := by unfold Hid setE; rw [if_pos he]
  rw [errV_zero he]
  clear he
  go_wp2_with fail
  refine (prop_any p hp w1).mono ?_
  rintro e w2 ⟨rfl, hb2⟩
  have hB2 := hB1.trans (hb2.mono hB1.size)
  have x0 := cell_below hb2 y0
  have x1 := cell_below hb2 y1
  have x2 := cell_below hb2 y2
  have x3 := cell_below hb2 y3
  clear y0 y1 y2 y3 hb2 hB1
  by_cases he : prpE p = 0
  case neg =>
    have HE : Hid (errV (setE r p) = .iface 118 (.int .i64 (prpE p)) ∧ setR r p = []) := by
      have h0 : setE r p = prpE p := by rw [HE0.out, if_neg he]
      exact ⟨by rw [h0]; exact errV_some he, by unfold setR; rw [h0, if_neg he]⟩
    rw [errV_some he]
    clear he
    go_wp2_with fail
    go_ret2
    exact ⟨.slice none 0 0, by rw [HE.out.1]; rfl, by rw [HE.out.2]; exact OwnP.nil, hB2⟩
  have HE : Hid (setE r p = if rhas r p.name then 0 else if 8 ≤ r.length then 4 else 0) := by unfold Hid; rw [HE0.out, if_pos he]
  rw [errV_zero he]
  have hfd := rfind_any r p.name _ w2 (HV.out.below hB2) hch (by omega)
  clear he hch HE0
  go_wp2_with fail
  refine hfd.mono ?_
  clear hfd
  rintro e w3 ⟨rfl, hb3⟩
  have hB3 := hB2.trans (hb3.mono hB2.size)
  have y0 := cell_below hb3 x0
  have y1 := cell_below hb3 x1
  have y2 := cell_below hb3 x2
  have y3 := cell_below hb3 x3
  have hK := lowI_le (prpC p.name) r
  have h3lt : w.heap.size < w3.heap.size := World.block_lt_of_cell? _ _ y0
  have HP : Hid (putP r p = if rhas r p.name then r.set (rpos r p.name) p else r.take (rpos r p.name) ++ p :: r.drop (rpos r p.name)) := rfl
  have hcl := clone_prps (HV.out.below hB3) (by omega)
  clear x0 x1 x2 x3 hb3 hB2
  go_wp2_with fail
  refine hcl.mono ?_
  clear hcl
  rintro e w4 ⟨v4, xs, rfl, hown, hrow, hb4⟩
  obtain ⟨rfl, hoks⟩ := Row.flat hrow
  have hown : Own w4 w3.heap.size 62 4 v4 r.length (r.flatMap Prp.enc) := hown
  have hB4 := hB3.trans (hb4.mono hB3.size)
  have h34 := hB3.size
  have hl4 := hb4.size
  have x0 := cell_below hb4 y0
  have x1 := cell_below hb4 y1
  have x2 := cell_below hb4 y2
  have x3 := cell_below hb4 y3
  have HO : Hid (∀ q ∈ r, q.ok) := hoks
  clear y0 y1 y2 y3 hrow hoks
  cases hq : rhas r p.name with
  | true =>
    obtain ⟨d, hd⟩ := rhas_some hq
    have hpl := (List.getElem?_eq_some_iff.1 hd).1
    have HF : Hid (setE r p = 0 ∧ setR r p = r.set (rpos r p.name) p) := by
      have h0 : setE r p = 0 := by rw [HE.out, hq]; rfl
      exact ⟨h0, by unfold setR; rw [if_pos h0, HP.out, hq]; rfl⟩
    obtain ⟨g, o, c4, rfl, hg1, hg2⟩ := hown.addr (by omega)
    have hS := flat_set4 p r (rpos r p.name) hpl
    have hlen := hown.1
    have s1 := hown.store (rpos r p.name * 4) (by omega) (.string p.name)
    have s2 := s1.store (rpos r p.name * 4 + 1) (by omega) (.int .i64 p.v.ty)
    have s3 := s2.store (rpos r p.name * 4 + 2) (by omega) (.int .i64 p.v.n)
    have s4 := s3.store (rpos r p.name * 4 + 3) (by omega) (.string p.v.s)
    rw [hS] at s4
    obtain ⟨b, o', hA, _, q0, q1, q2, q3⟩ := prp_at (hown.prps HO.out) hd
    injection hA with hA
    injection hA with hA1 hA2
    subst hA1; subst hA2
    have f0 := hown.frozen rfl (o + rpos r p.name * 4)
    have f1 := hown.frozen rfl (o + rpos r p.name * 4 + 1)
    have f2 := hown.frozen rfl (o + rpos r p.name * 4 + 2)
    have f3 := hown.frozen rfl (o + rpos r p.name * 4 + 3)
    have hne : w.heap.size ≠ g := by omega
    have HS4 := Lib.hid s4
    have hpl' : (rpos r p.name : Int) < (r.length : Int) := by omega
    have HL : Hid ((r.set (rpos r p.name) p).length = r.length) := List.length_set ..
    have HO2 : Hid (∀ q ∈ r.set (rpos r p.name) p, q.ok) := fun q hq2 => by
      rcases List.mem_or_eq_of_mem_set hq2 with h | rfl
      · exact HO.out q h
      · exact hp
    generalize rpos r p.name = K at *
    clear hq HE HP hd hS s1 s2 s3 s4 hown
    go_wp2_with fail
    go_ret2
    refine ⟨.slice (some ⟨g, o, none⟩) r.length c4, by rw [HF.out.1, errV_zero rfl]; rfl, ?_, ?_⟩
    · rw [HF.out.2]
      exact ⟨(Own.mono (by rw [HL.out]; exact HS4.out) h34), HO2.out⟩
    · exact (((hB4.setCell (p := ⟨g, _, none⟩) (by show w.heap.size ≤ g; omega) _).setCell (p := ⟨g, _, none⟩) (by show w.heap.size ≤ g; omega) _).setCell (p := ⟨g, _, none⟩) (by show w.heap.size ≤ g; omega) _).setCell (p := ⟨g, _, none⟩) (by show w.heap.size ≤ g; omega) _
  | false =>
    by_cases h8 : 8 ≤ r.length
    · have HF : Hid (setE r p = 4 ∧ setR r p = []) := by
        have h0 : setE r p = 4 := by rw [HE.out, hq]; simp [h8]
        exact ⟨h0, by unfold setR; rw [h0]; rfl⟩
      have h8' : (8 : Int) ≤ (r.length : Int) := by omega
      obtain ⟨A4, c4, rfl, _, _⟩ := hown.form
      clear hq HE HP hown
      go_wp2_with fail
      go_ret2
      exact ⟨.slice none 0 0, by rw [HF.out.1]; rfl, by rw [HF.out.2]; exact OwnP.nil, hB4⟩
    · have HF : Hid (setE r p = 0 ∧ setR r p = r.take (rpos r p.name) ++ p :: r.drop (rpos r p.name)) := by
        have h0 : setE r p = 0 := by rw [HE.out, hq]; simp [h8]
        exact ⟨h0, by unfold setR; rw [if_pos h0, HP.out, hq]; rfl⟩
      have h8' : (r.length : Int) < 8 := by omega
      have hK' : rpos r p.name ≤ r.length := hK
      have hfi := flat_insert Prp.enc_len r (rpos r p.name) hK' p
      have hil := ins_prp (w4.alloc (.cells #[.string p.name, .int .i64 p.v.ty, .int .i64 p.v.n, .string p.v.s] 62)) w3.heap.size v4 r.length (r.flatMap Prp.enc) (hown.alloc _) (rpos r p.name) hK' w4.heap.size p.enc rfl (heap_alloc_new _ _) p.enc_one (oneCell_flat Prp.enc_one r)
        (fun e => by have := (hown.lt _ e).2; omega) (by simp; omega) (by omega)
      rw [hfi] at hil
      have HOK : Hid (∀ q ∈ r.take (rpos r p.name) ++ p :: r.drop (rpos r p.name), q.ok) := fun q hq2 => by
        rcases List.mem_append.1 hq2 with h | h
        · exact HO.out q (List.mem_of_mem_take h)
        · rcases List.mem_cons.1 h with rfl | h
          · exact hp
          · exact HO.out q (List.mem_of_mem_drop h)
      have HL : Hid ((r.take (rpos r p.name) ++ p :: r.drop (rpos r p.name)).length = r.length + 1) := by unfold Hid; simp; omega
      generalize r.take (rpos r p.name) ++ p :: r.drop (rpos r p.name) = r' at *
      generalize rpos r p.name = K at *
      have HW := Lib.hid hown
      obtain ⟨A4, c4, rfl, _, _⟩ := hown.form
      clear hq HE HP hfi hown
      go_wp2_with fail
      refine hil.mono ?_
      clear hil
      rintro e w5 ⟨v5, rfl, hown5, hg5⟩
      rw [← HL.out] at hown5
      have hsl := hown5.mono h34
      have hB5 : Below w.heap.size w w5 := (hB4.alloc hB4.size _).grown hg5 (by have := hB4.size; simp; omega) (fun kk e => by have := (HW.out.lt kk e).1; omega)
      obtain ⟨A5, c5, rfl, _, _⟩ := hown5.form
      have HSL := Lib.hid hsl
      clear hg5 hown5 hsl
      go_wp2_with fail
      go_ret2
      exact ⟨.slice A5 r'.length c5, by rw [HF.out.1, errV_zero rfl]; rfl, by rw [HF.out.2]; exact ⟨HSL.out, HOK.out⟩, hB5⟩
theorem set_any (r : List Prp) (p : Prp) (v : Value) (w : World) (hv : Sl prpL w v r) (hp : p.ok) :
    Calls Tryz.prog 27 #[v, .agg #[.string p.name, .int .i64 p.v.ty, .int .i64 p.v.n, .string p.v.s]] w (RetR (setR r p) (setE r p) w) := (set_own r p v w hv hp).mono fun _ _ h => h.r

def unsetE (r : List Prp) (nm : ByteArray) : Int := if recE r = 0 then (if rhas r nm then 0 else 5) else recE r
def unsetR (r : List Prp) (nm : ByteArray) : List Prp := if unsetE r nm = 0 then r.take (rpos r nm) ++ r.drop (rpos r nm + 1) else []
def recAt (l : List Nod) (id : Int) : List Prp := match l[fpos l id]? with | some n => n.props | none => []




theorem wp_append_z {P : Program} (w : World) {o : Oper} {a : Act} {K : Act → World → Prop} {Q : Exit → Act → World → Prop} (s x : Operand) (t tn : TypeId)
    (ho : o.op = .call { callee := .builtin .append, args := #[s, x], argTypes := #[t, tn] }) (v u : Value) (hs : a.eval s = v) (hx : a.eval x = u) {v' : Value} {w' : World}
    (hr : (Builtin.append_ #[t, tn] o.type #[v, u]).run P w = .ok v' w') (h : K (a.put o.dst v') w') : o.wp P a w K Q := by
  unfold Oper.wp execOp
  simp only [ho, resolve, invoke, builtin, Sem.run_bind, Sem.run_pure, Result.andThen_ok, List.map_toArray, List.map_cons, List.map_nil, hs, hx, hr]
  exact h


set_option maxRecDepth 100000 in
set_option maxHeartbeats 8000000 in
theorem del1_prps (w : World) (B : Nat) (v : Value) (m : Nat) (xs : List Value) (hown : Own w B 62 4 v (m + 1) xs) (i : Nat) (hi : i ≤ m) (hx1 : ∀ u ∈ xs, u.oneCell' = true) (hm : m ≤ 1000000) :
    Calls Tryz.prog 80 #[v, .int .i64 i, .int .i64 ((i : Int) + 1)] w fun e w' => ∃ u, e = .returned u ∧ Own w' B 62 4 u m (xs.take (i * 4) ++ xs.drop ((i + 1) * 4)) ∧ w.grownBy w' v.ownBlock ∧ u.ownBlock = v.ownBlock := by
  obtain ⟨i0, ei, ez, ez1, ez2⟩ := info_parts clone_prps_info
  obtain ⟨g, o, c, rfl, hBg, hgl⟩ := hown.addr (by omega)
  obtain ⟨_, c', hv, hmc, hcm⟩ := hown.form
  injection hv with hvA hvL hvC
  subst hvC
  clear hvL hvA
  unfold maxLen at hcm
  have hlen := hown.1
  have e1 : xs.take (i * 4) ++ xs.drop ((i + 1) * 4) = (xs.take (i * 4) ++ xs.drop ((i + 1) * 4) ++ xs.drop ((m + 1 - 1) * 4)).take (m * 4) :=
    (List.take_left' (by rw [List.length_append, List.length_take, List.length_drop, hlen]; omega)).symm
  have hfin : ∀ w1, Own w1 B 62 4 (.slice (some ⟨g, o, none⟩) (m + 1) c) (m + 1) (xs.take (i * 4) ++ xs.drop ((i + 1) * 4) ++ xs.drop ((m + 1 - 1) * 4)) → w.grownBy w1 (some g) →
      ∃ w9, (∀ ty c', (Builtin.clear_ #[60] ty #[.slice (some ⟨g, o + m * 4, none⟩) 1 c']).run Tryz.prog w1 = .ok (.tuple #[]) w9) ∧ Own w9 B 62 4 (.slice (some ⟨g, o, none⟩) m c) m (xs.take (i * 4) ++ xs.drop ((i + 1) * 4)) ∧ w.grownBy w9 (some g) := fun w1 h1 h2 => by
    obtain ⟨w9, hr9, ho9, hg9⟩ := h1.clear (P := Tryz.prog) (i := m) 60 i0 (.agg #[.string .empty, .int .i64 0, .int .i64 0, .string .empty]) 4 Tryz.underlying60 ei ez rfl (by kernel_rfl) (by decide) (by omega)
    rw [show m + 1 - m = 1 by omega] at hr9
    rw [← e1] at ho9
    exact ⟨w9, hr9, ho9, h2.trans hg9⟩
  have HF := Lib.hid hfin
  have hne : ((i : Int) == (i : Int) + 1) = false := beq_eq_false_iff_ne.2 (by omega)
  have hi' : (i : Int) ≤ (m : Int) := by omega
  have hm' : (m : Int) ≤ 1000000 := by omega
  have hmc' : (m : Int) + 1 ≤ (c : Int) := by omega
  have hcm' : ¬ c = m := by omega
  have hgd : ∀ nq, w.grownBy (w.drewN nq) (some g) := fun nq => (grownBy_refl w _).drawnN nq
  by_cases hc : c = i + 1
  · have him : m = i := by omega
    have hsh : ∀ nq, ∃ w1, (∀ ty c', (Builtin.append_ #[60, 60] ty #[.slice (some ⟨g, o, none⟩) i c, .slice (some ⟨g, o, none⟩) 0 c']).run Tryz.prog (w.drewN nq) = .ok (.slice (some ⟨g, o, none⟩) m c) w1) ∧
        Own w1 B 62 4 (.slice (some ⟨g, o, none⟩) (m + 1) c) (m + 1) (xs.take (i * 4) ++ xs.drop ((i + 1) * 4) ++ xs.drop ((m + 1 - 1) * 4)) ∧ w.grownBy w1 (some g) := fun nq => by
      obtain ⟨w1, hr1, ho1, hg1⟩ := (hown.drewN nq).shift (P := Tryz.prog) 60 i0 Tryz.underlying60 ei ez1 hx1 (show i < m + 1 by omega) ⟨g, o, none⟩ (fun j u hj => by
        rw [List.drop_of_length_le (by rw [hlen, him]; exact Nat.le_refl _)] at hj; simp at hj)
      rw [show m + 1 - (i + 1) = 0 by omega, show m + 1 - 1 = m by omega] at hr1
      exact ⟨w1, hr1, ho1, (hgd nq).trans hg1⟩
    have HSH := Lib.hid hsh
    subst him
    subst hc
    clear hown hx1 hfin hsh hgd e1 hlen ei ez ez1 ez2
    go_enter Tryz.func80, Tryz.ntmps80
    go_wp2_with fail
    refine wp_mid_k 6 _ rfl rfl (by kernel_rfl) (by kernel_rfl) ?_
    simp only [List.take_succ_cons, List.take_zero, List.drop_succ_cons, List.drop_zero]
    repeat (go_big_quiet_step (fail))
    refine wpQuiet_nil ?_
    intro _ hw'
    obtain ⟨nq, hw''⟩ := hw'
    subst hw''
    intro K hK
    obtain ⟨w1, hr1, ho1, hg1⟩ := HSH.out nq
    refine wp_append_z _ (.tmp 22) (.tmp 25) _ _ rfl _ _ rfl rfl (hr1 _ _) ?_
    refine hK _ _ ?_
    go_frame
    repeat (go_big_quiet_step (fail))
    refine wpQuiet_nil ?_
    intro _ hw'
    obtain ⟨nq2, hw''⟩ := hw'
    subst hw''
    clear hK
    obtain ⟨w9, hr9, ho9, hg9⟩ := HF.out (w1.drewN nq2) (ho1.drewN nq2) (hg1.drawnN nq2)
    clear hr1 ho1 hg1
    go_wp2_with (at_builtin; refine wpList_clear_q _ rfl (.tmp 31) _ rfl _ rfl (hr9 _ _) ?_)
    go_ret
    exact ⟨_, rfl, ho9, hg9, rfl⟩
  · have hsh : ∀ nq, ∃ w1, (∀ ty c', (Builtin.append_ #[60, 60] ty #[.slice (some ⟨g, o, none⟩) i c, .slice (some ⟨g, o + (i + 1) * 4, none⟩) (m - i) c']).run Tryz.prog (w.drewN nq) = .ok (.slice (some ⟨g, o, none⟩) m c) w1) ∧
        Own w1 B 62 4 (.slice (some ⟨g, o, none⟩) (m + 1) c) (m + 1) (xs.take (i * 4) ++ xs.drop ((i + 1) * 4) ++ xs.drop ((m + 1 - 1) * 4)) ∧ w.grownBy w1 (some g) := fun nq => by
      obtain ⟨w1, hr1, ho1, hg1⟩ := (hown.drewN nq).shift (P := Tryz.prog) 60 i0 Tryz.underlying60 ei ez1 hx1 (show i < m + 1 by omega) ⟨g, o + (i + 1) * 4, none⟩ (fun j u hj => by
        rw [addr_add, Nat.add_assoc]
        rw [List.getElem?_drop] at hj
        exact (hown.drewN nq).cell rfl hj)
      rw [show m + 1 - (i + 1) = m - i by omega, show m + 1 - 1 = m by omega] at hr1
      exact ⟨w1, hr1, ho1, (hgd nq).trans hg1⟩
    have HSH := Lib.hid hsh
    clear hown hx1 hfin hsh hgd e1 hlen ei ez ez1 ez2
    go_enter Tryz.func80, Tryz.ntmps80
    go_wp2_with fail
    refine wp_mid_k 6 _ rfl rfl (by kernel_rfl) (by kernel_rfl) ?_
    simp only [List.take_succ_cons, List.take_zero, List.drop_succ_cons, List.drop_zero]
    repeat (go_big_quiet_step (fail))
    refine wpQuiet_nil ?_
    intro _ hw'
    obtain ⟨nq, hw''⟩ := hw'
    subst hw''
    intro K hK
    obtain ⟨w1, hr1, ho1, hg1⟩ := HSH.out nq
    refine wp_append_z _ (.tmp 22) (.tmp 25) _ _ rfl _ _ rfl rfl (hr1 _ _) ?_
    refine hK _ _ ?_
    go_frame
    repeat (go_big_quiet_step (fail))
    refine wpQuiet_nil ?_
    intro _ hw'
    obtain ⟨nq2, hw''⟩ := hw'
    subst hw''
    clear hK
    obtain ⟨w9, hr9, ho9, hg9⟩ := HF.out (w1.drewN nq2) (ho1.drewN nq2) (hg1.drawnN nq2)
    clear hr1 ho1 hg1
    go_wp2_with (at_builtin; refine wpList_clear_q _ rfl (.tmp 31) _ rfl _ rfl (hr9 _ _) ?_)
    go_ret
    exact ⟨_, rfl, ho9, hg9, rfl⟩
end Go.Proofs.YtdmpkgiijddcdaaGreatDoor
