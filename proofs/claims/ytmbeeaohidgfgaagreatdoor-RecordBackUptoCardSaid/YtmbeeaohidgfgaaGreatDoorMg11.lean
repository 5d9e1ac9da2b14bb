/- Parts: RecS, GrC, TieP, VtT, VtC. -/
import Derived.Test.YtmbeeaohidgfgaaGreatDoorMg09
import Derived.Test.YtmbeeaohidgfgaaGreatDoorMg10
import Derived.Test.YtmbeeaohidgfgaaGreatDoorMg08
import Derived.Test.YtmbeeaohidgfgaaGreatDoorMg06
import Derived.Lib.Join
import Derived.Lib.Split
import Derived.Lib.CutLaws
/- Contracts: record.Find, record.Get, record.Set. -/
namespace Go.Proofs.YtmbeeaohidgfgaaGreatDoor
open Go Go.RowKit


theorem clone_prps_info : (Tryz.prog.info? 27).map (fun i => (i.zero, i.size, i.bytes)) = some (some (.agg #[.string .empty, .int .i64 0, .int .i64 0, .string .empty]), 4, 48) := by kernel_rfl
set_option maxHeartbeats 2000000 in
theorem clone_prps {w : World} {v : Value} {l : List Prp} (hv : Sl prpL w v l) (hl : l.length ≤ 1048576) : Calls Tryz.prog 22 #[v] w (CloneR prpL 27 l w) := by
  obtain ⟨i0, ei, ez, ez1, ez2⟩ := info_parts clone_prps_info
  obtain ⟨A, c, rfl, _, _⟩ := hv.form
  obtain ⟨xs, hr, hx⟩ := Row.of_sl hv
  have hlen := hr.len
  have h1 := hr.oneCell one_prp
  have q22 : ∀ (w : World) (a : Option Addr) (n c n' c' : Nat), (binOp .eql 23 (.slice a n c) (.slice none n' c')).run Tryz.prog w = .ok (.bool a.isNone) w := fun w a n c n' c' => Lib.run_eql_slice_nil w _ _ a n c n' c' Tryz.underlying23
  cases A with
  | none =>
    have h0 : l = [] := by
      rcases Nat.eq_zero_or_pos l.length with h | h
      · exact List.eq_nil_of_length_eq_zero h
      · obtain ⟨_, _, hA, _⟩ := hx h; cases hA
    subst h0
    clear hv hr hx hlen h1
    go_enter Tryz.func22, Tryz.ntmps22
    go_wp2_with fail
    go_ret
    exact ⟨_, [], rfl, Own.nil _ _ _ _, rfl, Below.refl _ _⟩
  | some a =>
    have hX : Hid (0 < l.length → ∃ b o, (some a : Option Addr) = some ⟨b, o, none⟩ ∧ ∀ j u, xs[j]? = some u → w.cell? ⟨b, o + j, none⟩ = some u) := hx
    have hR := Lib.hid hr
    have hL := Lib.hid hlen
    have h1H := Lib.hid h1
    clear hv hr hx hlen h1
    go_enter Tryz.func22, Tryz.ntmps22
    go_wp2_with (at_builtin; refine wpList_append_q _ rfl (.tmp 5) (.tmp 6) 23 rfl w.heap.size 27 i0 (.agg #[.string .empty, .int .i64 0, .int .i64 0, .string .empty]) 4 48 Tryz.underlying23 ei ez ez1 ez2 rfl (by decide) (.slice (some ⟨w.heap.size, 0, none⟩) 0 0) 0 [] rfl Own.made (some a) l.length c xs rfl hL.out (fun hp => by
        obtain ⟨b, o, hA, hy⟩ := hX.out hp
        exact ⟨_, hA, fun j u hj => by rw [addr_add]; exact cell_below ((Below.refl _ _).alloc (Nat.le_refl _) _) (hy j u hj)⟩) h1H.out (by unfold maxLen; omega) (by omega) (by simp) ?_; intro v7 w7 hown7 hg7 hat7)
    have hb7 : Below w.heap.size w w7 := ((Below.refl _ _).alloc (Nat.le_refl _) _).grown hg7 (by simp) (fun k hk => Nat.le_of_eq (by simpa [Value.ownBlock] using hk))
    simp only [Nat.zero_add, List.nil_append] at hown7
    clear hg7 hat7
    go_ret
    exact ⟨_, xs, rfl, hown7, hR.out, hb7⟩

/-! ### The order of names -/
theorem less_cmp : ∀ (a b : List UInt8), Op.bytesLess a b = decide (Lib.compareBytes a b < 0)
  | [], [] => by simp [Op.bytesLess, Lib.compareBytes]
  | [], _ :: _ => by simp [Op.bytesLess, Lib.compareBytes]
  | _ :: _, [] => by simp [Op.bytesLess, Lib.compareBytes]
  | x :: a, y :: b => by
    rw [Op.bytesLess, Lib.compareBytes, less_cmp a b]
    by_cases h1 : x < y
    · simp [h1]
    · by_cases h2 : y < x
      · have : x ≠ y := fun e => by subst e; exact absurd h2 h1
        simp [h1, h2, this]
      · have e : x = y := by
          apply UInt8.toNat_inj.1
          simp [UInt8.lt_iff_toNat_lt] at h1 h2
          omega
        subst e
        simp [h1]
theorem ltS_cmp (a b : ByteArray) : ltS a b = decide (cmpS a b < 0) := by
  unfold ltS cmpS
  rw [less_cmp, ByteArray.toList_eq, ByteArray.toList_eq]
theorem prpC_mono (nm : ByteArray) : ∀ a b, prpLt a b = true → 0 ≤ prpC nm a → 0 ≤ prpC nm b := by
  intro a b h h1
  unfold prpLt at h
  rw [ltS_cmp] at h
  unfold prpC at h1 ⊢
  simp at h
  by_cases hb : cmpS b.name nm < 0
  · have := cmpS_trans h hb; omega
  · omega
theorem rec_ok {r : List Prp} (h : recE r = 0) : r.length ≤ 8 ∧ (∀ p ∈ r, prpE p = 0) ∧ chain prpLt r = true := by
  unfold recE at h
  by_cases h1 : 8 < r.length
  · rw [if_pos h1] at h; omega
  rw [if_neg h1] at h
  by_cases h2 : firstE prpE r = 0
  · rw [if_pos h2] at h
    cases hc : chain (fun a b : Prp => ltS a.name b.name) r with
    | true =>
      refine ⟨by omega, fun p hp => ?_, hc⟩
      have key : ∀ l : List Prp, firstE prpE l = 0 → ∀ p ∈ l, prpE p = 0 := by
        intro l
        induction l with
        | nil => intro _ p hp; simp at hp
        | cons a l ih =>
          intro h p hp
          rw [firstE] at h
          split at h
          · rename_i h0
            rcases List.mem_cons.1 hp with rfl | hp
            · exact h0
            · exact ih h p hp
          · rename_i h0; exact absurd h h0
      exact key r h2 p hp
    | false => rw [hc] at h; simp at h
  · rw [if_neg h2] at h; exact absurd h h2
theorem rfind1_any (d : Prp) (nm : ByteArray) (w : World) :
    Calls Tryz.prog 49 #[.agg #[.string d.name, .int .i64 d.v.ty, .int .i64 d.v.n, .string d.v.s], .string nm] w fun e w' => e = .returned (.int .i64 (cmpS d.name nm)) ∧ Below w.heap.size w w' := by
  go_enter Tryz.func49, Tryz.ntmps49
  go_wp2_with (go_at_call 50; refine (scmp_any _ _ _).mono ?_; rintro e w' ⟨rfl, rfl⟩)
  go_ret
  exact ⟨rfl, (Below.refl _ _).alloc (Nat.le_refl _) _⟩
theorem rfind_any (r : List Prp) (nm : ByteArray) (v : Value) (w : World) (hv : Sl prpL w v r) (hc : chain prpLt r = true) (hl : r.length ≤ 1000) :
    Calls Tryz.prog 21 #[v, .string nm] w fun e w' => e = .returned (.tuple #[.int .i64 (rpos r nm), .bool (rhas r nm)]) ∧ Below w.heap.size w w' := by
  have hcall := bs_prp 49 #[] (by intro args w; kernel_rfl) (.string nm) (prpC nm) r v w hv (fun d u wx _ hu => by obtain ⟨rfl, _⟩ := hu; exact rfind1_any d nm wx) (rpos r nm) hl (lowI_le _ _)
    (fun i d hi hd => low_lt hi hd) (fun i d hi hd => low_ge hc (prpC_mono nm) hi hd)
  obtain ⟨A, c, rfl, _, _⟩ := hv.form
  have HE : Hid (rhas r nm = eqAt (prpC nm) r (rpos r nm)) := rfl
  clear hv hc
  generalize eqAt (prpC nm) r (rpos r nm) = B at *
  generalize rpos r nm = K at *
  go_enter Tryz.func21, Tryz.ntmps21
  go_wp2_with fail
  refine hcall.mono ?_
  rintro e w' ⟨rfl, hb⟩
  go_wp2_with fail
  go_ret2
  exact ⟨by rw [HE.out]; rfl, hb⟩

/-! ### record.Get -/
theorem res3 {w w1 : World} {T : TypeId} {c0 c1 c2 : Value} (a b c : Value) (hB : Below w.heap.size w w1) (h : w1.heap[w.heap.size]? = some (.cells #[c0, c1, c2] T (0, 0))) :
    Below w.heap.size w (((w1.setCell ⟨w.heap.size, 0, none⟩ a).setCell ⟨w.heap.size, 1, none⟩ b).setCell ⟨w.heap.size, 2, none⟩ c) ∧
    (((w1.setCell ⟨w.heap.size, 0, none⟩ a).setCell ⟨w.heap.size, 1, none⟩ b).setCell ⟨w.heap.size, 2, none⟩ c).cell? ⟨w.heap.size, 0, none⟩ = some a ∧
    (((w1.setCell ⟨w.heap.size, 0, none⟩ a).setCell ⟨w.heap.size, 1, none⟩ b).setCell ⟨w.heap.size, 2, none⟩ c).cell? ⟨w.heap.size, 1, none⟩ = some b ∧
    (((w1.setCell ⟨w.heap.size, 0, none⟩ a).setCell ⟨w.heap.size, 1, none⟩ b).setCell ⟨w.heap.size, 2, none⟩ c).cell? ⟨w.heap.size, 2, none⟩ = some c := by
  have h3 := setCell_block (setCell_block (setCell_block h 0 a) 1 b) 2 c
  exact ⟨((hB.setCell (p := ⟨_, 0, none⟩) (Nat.le_refl _) _).setCell (p := ⟨_, 1, none⟩) (Nat.le_refl _) _).setCell (p := ⟨_, 2, none⟩) (Nat.le_refl _) _, block_cell h3 0, block_cell h3 1, block_cell h3 2⟩
def getE (r : List Prp) (nm : ByteArray) : Int := if recE r = 0 then (if rhas r nm then 0 else 5) else recE r
def noVal : Val := ⟨0, 0, .empty⟩
def getV (r : List Prp) (nm : ByteArray) : Val := if getE r nm = 0 then (match r[rpos r nm]? with | some p => p.v | none => noVal) else noVal
theorem rhas_some {r : List Prp} {nm : ByteArray} (h : rhas r nm = true) : ∃ p, r[rpos r nm]? = some p := by
  unfold rhas eqAt at h
  cases hd : r[rpos r nm]? with
  | none => rw [hd] at h; simp at h
  | some d => exact ⟨d, rfl⟩
set_option maxHeartbeats 2000000 in
theorem get_any (r : List Prp) (nm : ByteArray) (v : Value) (w : World) (hv : Sl prpL w v r) :
    Calls Tryz.prog 10 #[v, .string nm] w fun e w' => e = .returned (.tuple #[.agg #[.int .i64 (getV r nm).ty, .int .i64 (getV r nm).n, .string (getV r nm).s], errV (getE r nm)]) ∧ Below w.heap.size w w' := by
  have hb0 : Below w.heap.size w (w.alloc (.cells #[.int .i64 0, .int .i64 0, .string .empty] 25)) := (Below.refl _ _).alloc (Nat.le_refl _) _
  have hbk := heap_alloc_new w (.cells #[.int .i64 0, .int .i64 0, .string .empty] 25)
  have h1 := recCheck_any r v _ (hv.below hb0)
  have HV := Lib.hid hv
  obtain ⟨A, c, rfl, _, _⟩ := hv.form
  clear hv
  go_enter Tryz.func10, Tryz.ntmps10
  go_wp2_with fail
  refine h1.mono ?_
  clear h1
  rintro e w1 ⟨rfl, hb1⟩
  have hB1 := hb0.trans (hb1.mono hb0.size)
  have hb1k := (hb1.block _ (Array.getElem?_eq_some_iff.1 hbk).1).trans hbk
  clear hb0 hb1 hbk
  by_cases he : recE r = 0
  case neg =>
    have HE : Hid (errV (getE r nm) = .iface 74 (.int .i64 (recE r)) ∧ getV r nm = noVal) := by
      have h0 : getE r nm = recE r := by unfold getE; rw [if_neg he]
      exact ⟨by rw [h0]; exact errV_some he, by unfold getV; rw [h0, if_neg he]⟩
    obtain ⟨k1, k2, k3, k4⟩ := res3 (.int .i64 0) (.int .i64 0) (.string ⟨#[]⟩) hB1 hb1k
    have y0 := block_cell hb1k 0
    have y1 := block_cell hb1k 1
    have y2 := block_cell hb1k 2
    have g0 := block_free hb1k 0
    have g1 := block_free hb1k 1
    have g2 := block_free hb1k 2
    rw [errV_some he]
    clear he hb1k
    go_wp2_with fail
    exact bodyPost_ret (v := .tuple #[.agg #[.int .i64 0, .int .i64 0, .string ⟨#[]⟩], .iface 74 (.int .i64 (recE r))]) (by simp [results, Tryz.results10, go_sem, k2, k3, k4]) rfl ⟨by rw [HE.out.1, HE.out.2]; rfl, k1⟩
  obtain ⟨hl8, _, hch⟩ := rec_ok he
  have HE : Hid (getE r nm = if rhas r nm then 0 else 5) := by unfold Hid getE; rw [if_pos he]
  rw [errV_zero he]
  have hfd := rfind_any r nm _ w1 (HV.out.below hB1) hch (by omega)
  clear he hch
  go_wp2_with fail
  refine hfd.mono ?_
  clear hfd
  rintro e w2 ⟨rfl, hb2⟩
  have hB2 := hB1.trans (hb2.mono hB1.size)
  have hb2k := (hb2.block _ (Array.getElem?_eq_some_iff.1 hb1k).1).trans hb1k
  have y0 := block_cell hb2k 0
  have y1 := block_cell hb2k 1
  have y2 := block_cell hb2k 2
  have g0 := block_free hb2k 0
  have g1 := block_free hb2k 1
  have g2 := block_free hb2k 2
  cases hq : rhas r nm with
  | false =>
    have HF : Hid (getE r nm = 5 ∧ getV r nm = noVal) := by
      have h0 : getE r nm = 5 := by rw [HE.out, hq]; rfl
      exact ⟨h0, by unfold getV; rw [h0]; rfl⟩
    obtain ⟨k1, k2, k3, k4⟩ := res3 (.int .i64 0) (.int .i64 0) (.string ⟨#[]⟩) hB2 hb2k
    clear hq HE hb1k hb2k
    go_wp2_with fail
    exact bodyPost_ret (v := .tuple #[.agg #[.int .i64 0, .int .i64 0, .string ⟨#[]⟩], .iface 74 (.int .i64 5)]) (by simp [results, Tryz.results10, go_sem, k2, k3, k4]) rfl ⟨by rw [HF.out.1, HF.out.2]; rfl, k1⟩
  | true =>
    obtain ⟨p, hp⟩ := rhas_some hq
    have HF : Hid (getE r nm = 0 ∧ getV r nm = p.v) := by
      have h0 : getE r nm = 0 := by rw [HE.out, hq]; rfl
      exact ⟨h0, by unfold getV; rw [if_pos h0, hp]⟩
    obtain ⟨k1, k2, k3, k4⟩ := res3 (.int .i64 p.v.ty) (.int .i64 p.v.n) (.string p.v.s) hB2 hb2k
    have hpl := (List.getElem?_eq_some_iff.1 hp).1
    obtain ⟨b, o, rfl, _, x0, x1, x2, x3⟩ := prp_at (HV.out.below hB2) hp
    generalize rpos r nm = K at *
    have hpl' : (K : Int) < (r.length : Int) := by omega
    clear hq HE hp hb1k hb2k
    go_wp2_with fail
    exact bodyPost_ret (v := .tuple #[.agg #[.int .i64 p.v.ty, .int .i64 p.v.n, .string p.v.s], .nilIface]) (by simp [results, Tryz.results10, go_sem, k2, k3, k4]) rfl ⟨by rw [HF.out.1, HF.out.2, errV_zero rfl], k1⟩

/-! ### What a right graph gives -/

open Go

/-- A property, a record as text. -/
def prpT (p : Prp) : List UInt8 := p.name.data.toList ++ 61 :: showL p.v
def recT (r : List Prp) : List UInt8 := if r.length = 0 then [45] else Lib.join (r.map prpT) [44]
theorem prp_parts {p : Prp} (h : prpE p = 0) : nameE p.name = 0 ∧ valE p.v = 0 := by
  unfold prpE at h
  split at h
  · rename_i h1; exact ⟨h1, h⟩
  · rename_i h1; exact absurd h h1
theorem dbl_len2 (l : List UInt8) : (dbl l).length ≤ 2 * l.length := by
  induction l with
  | nil => exact Nat.le_refl _
  | cons c l ih => rw [dbl_cons]; split <;> simp <;> omega
theorem show_len {v : Val} (h : valE v = 0) : (showL v).length ≤ 42 := by
  unfold showL
  rcases val_parts h with ⟨h1, h2, h3, _⟩ | ⟨h1, _⟩ | ⟨h1, _, h3, _⟩
  · rw [if_pos h1]; have := (itoa_small h2 h3).2; omega
  · rw [if_neg (by omega), if_pos h1]
    split
    · show (4 : Nat) ≤ 42; omega
    · show (5 : Nat) ≤ 42; omega
  · rw [if_neg (by omega), if_neg (by omega)]
    have h4 := dbl_len2 v.s.data.toList
    have h5 : v.s.data.toList.length = v.s.size := by rw [Array.length_toList]; rfl
    simp only [List.length_cons, List.length_append, List.length_nil]
    omega
theorem name_len {s : ByteArray} (h : nameE s = 0) : s.data.toList.length ≤ 8 := by
  have h5 : s.data.toList.length = s.size := by rw [Array.length_toList]; rfl
  unfold nameE at h
  split at h
  · cases h
  · split at h
    · cases h
    · omega
theorem tail_len : ∀ (r : List (List UInt8)) (sep : List UInt8) (m : Nat), (∀ x ∈ r, x.length ≤ m) → (Lib.joinTail sep r).length ≤ r.length * (m + sep.length)
  | [], _, _, _ => by simp [Lib.joinTail]
  | y :: r, sep, m, h => by
    have hy := h y (by simp)
    have ih := tail_len r sep m fun z hz => h z (List.mem_cons_of_mem _ hz)
    unfold Lib.joinTail at *
    rw [List.map_cons, List.flatten_cons, List.length_append, List.length_append, List.length_cons, Nat.succ_mul]
    omega
theorem join_len : ∀ (xs : List (List UInt8)) (sep : List UInt8) (m : Nat), (∀ x ∈ xs, x.length ≤ m) → (Lib.join xs sep).length ≤ xs.length * (m + sep.length)
  | [], sep, m, _ => by rw [Lib.join_nil]; simp
  | x :: r, sep, m, h => by
    rw [Lib.join_cons, List.length_append]
    have h1 := h x (by simp)
    have h2 := tail_len r sep m fun y hy => h y (List.mem_cons_of_mem _ hy)
    rw [List.length_cons, Nat.succ_mul]
    omega
theorem prp_len {p : Prp} (h : prpE p = 0) : (prpT p).length ≤ 51 := by
  have h1 := name_len (prp_parts h).1
  have h2 := show_len (prp_parts h).2
  unfold prpT
  rw [List.length_append, List.length_cons]; omega
theorem rec_len {r : List Prp} (h : recE r = 0) : (recT r).length ≤ 417 := by
  unfold recT
  split
  · show (1 : Nat) ≤ 417; omega
  · have h1 := join_len (r.map prpT) [44] 51 fun x hx => by
      obtain ⟨p, hp, rfl⟩ := List.mem_map.1 hx
      exact prp_len ((rec_ok h).2.1 p hp)
    have h2 := (rec_ok h).1
    rw [List.length_map] at h1
    have h3 : r.length * (51 + ([44] : List UInt8).length) ≤ 8 * 52 := Nat.mul_le_mul h2 (Nat.le_refl _)
    omega

/-- A sign is not in a text. -/
def noB (c : UInt8) (l : List UInt8) : Prop := ∀ x ∈ l, x ≠ c
theorem noB.nil {c : UInt8} : noB c [] := fun _ h => by cases h
theorem noB.cons {c x : UInt8} {l : List UInt8} (h : x ≠ c) (k : noB c l) : noB c (x :: l) := fun y hy => by
  rcases List.mem_cons.1 hy with rfl | hy
  · exact h
  · exact k y hy
theorem noB.append {c : UInt8} {a b : List UInt8} (h : noB c a) (k : noB c b) : noB c (a ++ b) := fun y hy => by
  rcases List.mem_append.1 hy with hy | hy
  · exact h y hy
  · exact k y hy
/-- A text has a first such sign, or none. -/
theorem first_sign (c : UInt8) : ∀ l : List UInt8, noB c l ∨ ∃ a r, l = a ++ c :: r ∧ noB c a
  | [] => .inl .nil
  | x :: l => by
    by_cases hx : x = c
    · exact .inr ⟨[], l, by rw [hx]; rfl, .nil⟩
    · rcases first_sign c l with h | ⟨a, r, rfl, h⟩
      · exact .inl (.cons hx h)
      · exact .inr ⟨x :: a, r, rfl, .cons hx h⟩
theorem occ_ne {s : List UInt8} {c : UInt8} {i : Nat} (h : s[i]? ≠ some c) : Lib.occAt s [c] i = false := by
  cases hq : Lib.occAt s [c] i with
  | false => rfl
  | true => exact absurd (Lib.occAt_head rfl hq) h
theorem index_sign {c : UInt8} {a r : List UInt8} (h : noB c a) : Lib.index (a ++ c :: r) [c] = a.length :=
  Lib.index_hit (fun j hj => occ_ne (by
    rw [List.getElem?_append_left hj]
    intro e
    exact h _ (List.mem_of_getElem? e) rfl)) (by simp) (by simp [Lib.occAt])
theorem index_no {c : UInt8} {a : List UInt8} (h : noB c a) : Lib.index a [c] = -1 :=
  Lib.index_none fun j hj => occ_ne fun e => h _ (List.mem_of_getElem? e) rfl
/-- Cut at the first. -/
theorem cut_sign {c : UInt8} {a r : List UInt8} (h : noB c a) : Lib.cut (a ++ c :: r) [c] = (a, r, true) := by
  unfold Lib.cut
  rw [index_sign h, if_pos (by omega)]
  simp
theorem cut_no {c : UInt8} {a : List UInt8} (h : noB c a) : Lib.cut a [c] = (a, [], false) := by
  unfold Lib.cut
  rw [index_no h, if_neg (by omega)]
theorem cut_cases (c : UInt8) (l : List UInt8) : (Lib.cut l [c] = (l, [], false) ∧ noB c l) ∨ ∃ a r, l = a ++ c :: r ∧ noB c a ∧ Lib.cut l [c] = (a, r, true) := by
  rcases first_sign c l with h | ⟨a, r, rfl, h⟩
  · exact .inl ⟨cut_no h, h⟩
  · exact .inr ⟨a, r, rfl, h, cut_sign h⟩
theorem join_two (c : UInt8) (a y : List UInt8) (m : List (List UInt8)) : Lib.join (a :: y :: m) [c] = a ++ c :: Lib.join (y :: m) [c] := by
  show [c].intercalate (a :: y :: m) = _
  have e : [c].intercalate (a :: y :: m) = a ++ [c] ++ [c].intercalate (y :: m) := by simp [List.intercalate, List.intersperse]
  rw [e]; simp [Lib.join]
theorem join_one (c : UInt8) (a : List UInt8) : Lib.join [a] [c] = a := by simp [Lib.join]
/-- Cut at each that is in no quotes. -/
def cutF (c : UInt8) : Bool → List UInt8 → List UInt8 → List (List UInt8)
  | _, cur, [] => [cur]
  | q, cur, x :: l => if x = 39 then cutF c (!q) (cur ++ [x]) l else if x = c ∧ q = false then cur :: cutF c false [] l else cutF c q (cur ++ [x]) l
theorem cutF_cons (c : UInt8) (q : Bool) (cur : List UInt8) (x : UInt8) (l : List UInt8) : cutF c q cur (x :: l) = if x = 39 then cutF c (!q) (cur ++ [x]) l else if x = c ∧ q = false then cur :: cutF c false [] l else cutF c q (cur ++ [x]) l := rfl
def cutL (c : UInt8) (l : List UInt8) : List (List UInt8) := cutF c false [] l
theorem cutF_ne (c : UInt8) : ∀ (l : List UInt8) (q : Bool) (cur : List UInt8), cutF c q cur l ≠ []
  | [], _, _ => by simp [cutF]
  | x :: l, q, cur => by
    rw [cutF_cons]
    split
    · exact cutF_ne c l _ _
    · split
      · simp
      · exact cutF_ne c l _ _
theorem cutF_whole (c : UInt8) : ∀ (l : List UInt8) (q : Bool) (cur : List UInt8), Lib.join (cutF c q cur l) [c] = cur ++ l
  | [], q, cur => by show Lib.join [cur] [c] = _; rw [join_one]; simp
  | x :: l, q, cur => by
    rw [cutF_cons]
    split
    · rw [cutF_whole c l]; simp
    · split
      · rename_i h
        cases hs : cutF c false [] l with
        | nil => exact absurd hs (cutF_ne c l _ _)
        | cons y m =>
          rw [join_two, ← hs, cutF_whole c l, h.1]; simp
      · rw [cutF_whole c l]; simp
/-- How a text's quotes stand behind it; none: the sign is in it, in no quotes. -/
def scanQ (c : UInt8) : Bool → List UInt8 → Option Bool
  | q, [] => some q
  | q, x :: l => if x = 39 then scanQ c (!q) l else if x = c ∧ q = false then none else scanQ c q l
theorem scanQ_cons (c : UInt8) (q : Bool) (x : UInt8) (l : List UInt8) : scanQ c q (x :: l) = if x = 39 then scanQ c (!q) l else if x = c ∧ q = false then none else scanQ c q l := rfl
theorem scanQ_append (c : UInt8) : ∀ (a b : List UInt8) (q : Bool), scanQ c q (a ++ b) = (scanQ c q a).bind fun q' => scanQ c q' b
  | [], b, q => rfl
  | x :: a, b, q => by
    show scanQ c q (x :: (a ++ b)) = _
    rw [scanQ_cons, scanQ_cons]
    split
    · exact scanQ_append c a b _
    · split
      · rfl
      · exact scanQ_append c a b _
theorem scanQ_plain {c : UInt8} : ∀ {l : List UInt8}, noB c l → noB 39 l → scanQ c false l = some false
  | [], _, _ => rfl
  | x :: l, h, k => by
    rw [scanQ_cons, if_neg (k x (by simp)), if_neg (fun e => h x (by simp) e.1)]
    exact scanQ_plain (fun y hy => h y (List.mem_cons_of_mem _ hy)) (fun y hy => k y (List.mem_cons_of_mem _ hy))
theorem scanQ_dbl (c : UInt8) : ∀ (l : List UInt8), scanQ c true (dbl l) = some true
  | [] => rfl
  | x :: l => by
    rw [dbl_cons]
    split
    · rw [scanQ_cons, if_pos rfl, scanQ_cons, if_pos rfl]; exact scanQ_dbl c l
    · rename_i h
      rw [scanQ_cons, if_neg h, if_neg (fun e => by cases e.2)]; exact scanQ_dbl c l
theorem cutF_scan (c : UInt8) : ∀ (a r : List UInt8) (q q' : Bool) (cur : List UInt8), scanQ c q a = some q' → cutF c q cur (a ++ r) = cutF c q' (cur ++ a) r
  | [], r, q, q', cur, h => by obtain rfl := Option.some.inj h; simp
  | x :: a, r, q, q', cur, h => by
    rw [scanQ_cons] at h
    show cutF c q cur (x :: (a ++ r)) = _
    rw [cutF_cons]
    split at h
    · rename_i hx
      rw [if_pos hx, cutF_scan c a r _ _ _ h]; simp
    · rename_i hx
      split at h
      · cases h
      · rename_i hc
        rw [if_neg hx, if_neg hc, cutF_scan c a r _ _ _ h]; simp
theorem cutF_join {c : UInt8} (hc : c ≠ 39) : ∀ (xs : List (List UInt8)), xs ≠ [] → (∀ x ∈ xs, scanQ c false x = some false) → cutL c (Lib.join xs [c]) = xs
  | [], h, _ => absurd rfl h
  | [a], _, h => by
    rw [join_one]
    have := cutF_scan c a [] false false [] (h a (by simp))
    rw [List.append_nil] at this
    unfold cutL
    rw [this]; rfl
  | a :: y :: m, _, h => by
    rw [join_two]
    unfold cutL
    rw [cutF_scan c a _ false false [] (h a (by simp)), cutF_cons, if_neg hc, if_pos ⟨rfl, rfl⟩]
    have := cutF_join hc (y :: m) (by simp) fun x hx => h x (List.mem_cons_of_mem _ hx)
    unfold cutL at this
    rw [this]; rfl
end Go.Proofs.YtmbeeaohidgfgaaGreatDoor
