/- Contracts: rows.get, rows.ready, rows.Sum. -/
import Derived.Test.YtdfeloeainabjaaDoorRecS
namespace Go.Proofs.YtdfeloeainabjaaDoor
open Go Go.RowKit

/-- The value that a record has; none: the empty one. -/
def getW (r : List Prp) (nm : ByteArray) : Val := if rhas r nm then (match r[rpos r nm]? with | some p => p.v | none => noVal) else noVal
set_option maxHeartbeats 2000000 in
theorem rget_any (r : List Prp) (nm : ByteArray) (v : Value) (w : World) (hv : Sl prpL w v r) (hc : chain prpLt r = true) (hl : r.length ≤ 1000) :
    Calls Tryd.prog 47 #[v, .string nm] w fun e w' => e = .returned (.tuple #[.agg #[.int .i64 (getW r nm).ty, .int .i64 (getW r nm).n, .string (getW r nm).s], .bool (rhas r nm)]) ∧ Below w.heap.size w w' := by
  have hB1 : Below w.heap.size w (w.alloc (.cells #[.int .i64 0, .int .i64 0, .string .empty] 40)) := (Below.refl _ _).alloc (Nat.le_refl _) _
  have hb1k := heap_alloc_new w (.cells #[.int .i64 0, .int .i64 0, .string .empty] 40)
  have HV := Lib.hid hv
  obtain ⟨A, c, rfl, _, _⟩ := hv.form
  have hfd := rfind_any r nm _ _ (hv.below hB1) hc hl
  clear hv hc
  go_enter Tryd.func47, Tryd.ntmps47
  go_wp2_with fail
  refine hfd.mono ?_
  clear hfd
  rintro e w2 ⟨rfl, hb2⟩
  have hB2 := hB1.trans (hb2.mono hB1.size)
  have hb2k := (hb2.block _ (Array.getElem?_eq_some_iff.1 hb1k).1).trans hb1k
  have y0 := block_cell hb2k 0
  have y1 := block_cell hb2k 1
  have y2 := block_cell hb2k 2
  have g0 := block_free hb2k 0
  have g1 := block_free hb2k 1
  have g2 := block_free hb2k 2
  cases hq : rhas r nm with
  | false =>
    have HF : Hid (rhas r nm = false ∧ getW r nm = noVal) := ⟨hq, by unfold getW; rw [hq]; rfl⟩
    obtain ⟨k1, k2, k3, k4⟩ := res3 (.int .i64 0) (.int .i64 0) (.string ⟨#[]⟩) hB2 hb2k
    clear hq hb1k hb2k
    go_wp2_with fail
    exact bodyPost_ret (v := .tuple #[.agg #[.int .i64 0, .int .i64 0, .string ⟨#[]⟩], .bool false]) (by simp [results, Tryd.results47, go_sem, k2, k3, k4]) rfl ⟨by rw [HF.out.1, HF.out.2]; rfl, k1⟩
  | true =>
    obtain ⟨p, hp⟩ := rhas_some hq
    have HF : Hid (rhas r nm = true ∧ getW r nm = p.v) := ⟨hq, by unfold getW; rw [if_pos hq, hp]⟩
    obtain ⟨k1, k2, k3, k4⟩ := res3 (.int .i64 p.v.ty) (.int .i64 p.v.n) (.string p.v.s) hB2 hb2k
    have hpl := (List.getElem?_eq_some_iff.1 hp).1
    obtain ⟨b, o, rfl, _, x0, x1, x2, x3⟩ := prp_at (HV.out.below hB2) hp
    generalize rpos r nm = K at *
    have hpl' : (K : Int) < (r.length : Int) := by omega
    clear hq hp hb1k hb2k
    go_wp2_with fail
    exact bodyPost_ret (v := .tuple #[.agg #[.int .i64 p.v.ty, .int .i64 p.v.n, .string p.v.s], .bool true]) (by simp [results, Tryd.results47, go_sem, k2, k3, k4]) rfl ⟨by rw [HF.out.1, HF.out.2], k1⟩

/-! ### rows.ready -/
def recsL : Lay (List Prp) := slL prpL
def rowsE (l : List (List Prp)) (nm : ByteArray) : Int := if 200 < l.length then 4 else if firstE recE l = 0 then nameE nm else firstE recE l
theorem rowsE_zero {l : List (List Prp)} {nm : ByteArray} (h : rowsE l nm = 0) : l.length ≤ 200 ∧ (∀ r ∈ l, recE r = 0) ∧ nameE nm = 0 := by
  unfold rowsE at h
  split at h
  · omega
  · split at h
    · rename_i h1 h0
      refine ⟨by omega, ?_, h⟩
      clear h h1
      induction l with
      | nil => intro r hr; simp at hr
      | cons a l ih =>
        unfold firstE at h0
        split at h0
        · rename_i h2
          intro r hr
          rcases List.mem_cons.1 hr with rfl | hr
          · exact h2
          · exact ih h0 r hr
        · rename_i h2; exact absurd h0 h2
    · rename_i h0; exact absurd h h0
set_option maxHeartbeats 2000000 in
theorem ready_rows (l : List (List Prp)) (nm : ByteArray) (v : Value) (w : World) (hv : Sl recsL w v l) (hn : Sm nm) :
    Calls Tryd.prog 46 #[v, .string nm] w fun e w' => e = .returned (errV (rowsE l nm)) ∧ Below w.heap.size w w' := by
  obtain ⟨A, c, rfl, hlc, hcm⟩ := hv.form
  unfold maxLen at hcm
  have HF : Hid (rowsE l nm = if 200 < l.length then 4 else if firstE recE l = 0 then nameE nm else firstE recE l) := rfl
  by_cases h8 : 200 < l.length
  · have HE : Hid (errV (rowsE l nm) = .iface 80 (.int .i64 4)) := by rw [HF.out, if_pos h8]; rfl
    have h8' : (200 : Int) < (l.length : Int) := by omega
    clear hv
    go_enter Tryd.func46, Tryd.ntmps46
    go_wp2_with fail
    go_ret
    exact ⟨by rw [HE.out]; rfl, Below.refl _ _⟩
  have h8'' : (l.length : Int) ≤ 200 := by omega
  have HV := Lib.hid hv
  clear hv
  go_enter Tryd.func46, Tryd.ntmps46
  go_wp2_with fail
  go_loopw [14] (fun i wr => ∃ k : Nat, k ≤ l.length ∧ i = .int .i64 k ∧ Below w.heap.size w wr ∧ Hid (∀ j x, j < k → l[j]? = some x → recE x = 0)) (fun i _ => l.length - (intOf i).toNat)
  case atStart => exact ⟨0, Nat.zero_le _, rfl, Below.refl _ _, fun j x hj => absurd hj (Nat.not_lt_zero _)⟩
  case round =>
    obtain ⟨k, hk, rfl, hb, HA⟩ := hrel
    by_cases hlt : k < l.length
    · obtain ⟨d, hd⟩ : ∃ d, l[k]? = some d := ⟨_, List.getElem?_eq_getElem hlt⟩
      obtain ⟨b, o, rfl, u, hu, x0⟩ := sl_at (HV.out.below hb) hd
      have HD : Hid (l[k]? = some d) := hd
      have hlt' : (k : Int) < (l.length : Int) := by omega
      have hc := recCheck_any d u wr hu
      obtain ⟨A1, c1, rfl, _, _⟩ := hu.form
      clear hd hu
      go_wp2_with fail
      refine hc.mono ?_
      clear hc
      rintro e w1 ⟨rfl, hb1⟩
      have hb2 := hb.trans (hb1.mono hb.size)
      by_cases hz : recE d = 0
      · have HZ : Hid (recE d = 0) := hz
        rw [errV_zero hz]
        clear hz
        go_wp2_with fail
        go_roundw
        case rel => exact ⟨k + 1, by omega, by go_num, hb2, zero_step HA.out HD.out HZ.out⟩
        case measure => simp [intOf]; omega
      · have HE : Hid (errV (rowsE l nm) = .iface 80 (.int .i64 (recE d))) := by
          have := firstE_hit HA.out HD.out hz
          rw [HF.out, if_neg h8, this, if_neg hz]; exact errV_some hz
        rw [errV_some hz]
        clear hz
        go_wp2_with fail
        go_ret
        exact ⟨by rw [HE.out]; rfl, hb2⟩
    · obtain rfl : k = l.length := by omega
      have HE : Hid (rowsE l nm = nameE nm) := by rw [HF.out, if_neg h8, if_pos (firstE_none HA.out)]; rfl
      have hc := name_any nm wr hn
      go_wp2_with fail
      refine hc.mono ?_
      clear hc
      rintro e w1 ⟨rfl, hb1⟩
      go_wp2_with fail
      go_ret
      exact ⟨by rw [HE.out]; rfl, hb.trans (hb1.mono hb.size)⟩

/-! ### rows.Sum -/
def sumR (nm : ByteArray) : Int → List (List Prp) → Int × Int
  | acc, [] => (acc, 0)
  | acc, r :: t => if rhas r nm = true ∧ (getW r nm).ty ≠ 1 then (0, 8) else sumR nm (acc + (getW r nm).n) t
def rsumR (l : List (List Prp)) (nm : ByteArray) : Int × Int := if rowsE l nm = 0 then sumR nm 0 l else (0, rowsE l nm)
theorem recE_mem {r : List Prp} (h : recE r = 0) {p : Prp} (hp : p ∈ r) : valE p.v = 0 := by
  have h1 := (rec_ok h).2.1 p hp
  unfold prpE at h1
  split at h1
  · exact h1
  · rename_i h2; exact absurd h1 h2
theorem getW_small {r : List Prp} {nm : ByteArray} (h : recE r = 0) (h1 : ¬ (rhas r nm = true ∧ (getW r nm).ty ≠ 1)) : -1000000 ≤ (getW r nm).n ∧ (getW r nm).n ≤ 1000000 := by
  cases hq : rhas r nm with
  | false => have : getW r nm = noVal := by unfold getW; rw [hq]; rfl
             rw [this]; decide
  | true =>
    obtain ⟨p, hp⟩ := rhas_some hq
    have e : getW r nm = p.v := by unfold getW; rw [if_pos hq, hp]
    have hv := recE_mem h (List.mem_of_getElem? hp)
    have ht : p.v.ty = 1 := by
      rcases Int.decEq p.v.ty 1 with hne | he
      · exact absurd ⟨hq, by rw [e]; exact hne⟩ h1
      · exact he
    rw [e]
    unfold valE valLo valHi at hv
    rw [if_pos (.inl ht), ht] at hv
    simp only [if_true] at hv
    split at hv
    · omega
    · omega
theorem sumR_step {nm : ByteArray} {l : List (List Prp)} {k : Nat} {r : List Prp} {acc : Int} {R : Int × Int} (hr : l[k]? = some r) (h : R = sumR nm acc (l.drop k)) :
    R = if rhas r nm = true ∧ (getW r nm).ty ≠ 1 then (0, 8) else sumR nm (acc + (getW r nm).n) (l.drop (k + 1)) := by
  rw [h, drop_cons hr, sumR]
set_option maxHeartbeats 4000000 in
theorem rsum_any (l : List (List Prp)) (nm : ByteArray) (v : Value) (w : World) (hv : Sl recsL w v l) (hn : Sm nm) :
    Calls Tryd.prog 17 #[v, .string nm] w fun e w' => e = .returned (.tuple #[.int .i64 (rsumR l nm).1, errV (rsumR l nm).2]) ∧ Below w.heap.size w w' := by
  have hc := ready_rows l nm v w hv hn
  have HV := Lib.hid hv
  obtain ⟨A, c, rfl, hlc, hcm⟩ := hv.form
  unfold maxLen at hcm
  clear hv
  go_enter Tryd.func17, Tryd.ntmps17
  go_wp2_with fail
  refine hc.mono ?_
  clear hc
  rintro e w1 ⟨rfl, hb1⟩
  by_cases he : rowsE l nm = 0
  case neg =>
    have HE : Hid (rsumR l nm = (0, rowsE l nm) ∧ errV (rowsE l nm) = .iface 80 (.int .i64 (rowsE l nm))) := ⟨by unfold rsumR; rw [if_neg he], errV_some he⟩
    rw [errV_some he]
    clear he
    go_wp2_with fail
    go_ret2
    exact ⟨by rw [HE.out.1, HE.out.2]; rfl, hb1⟩
  have HE : Hid (rsumR l nm = sumR nm 0 l) := by unfold Hid rsumR; rw [if_pos he]
  have HR := Lib.hid (rowsE_zero he)
  have hl2 : (l.length : Int) ≤ 200 := by have := HR.out.1; omega
  rw [errV_zero he]
  clear he
  go_wp2_with fail
  go_loopw [7, 20] (fun s i wr => ∃ (k : Nat) (acc : Int), k ≤ l.length ∧ s = .int .i64 acc ∧ i = .int .i64 k ∧ Below w.heap.size w wr ∧ -1000000 * (k : Int) ≤ acc ∧ acc ≤ 1000000 * (k : Int) ∧ Hid (sumR nm 0 l = sumR nm acc (l.drop k))) (fun _ i _ => l.length - (intOf i).toNat)
  case atStart => exact ⟨0, 0, Nat.zero_le _, rfl, rfl, hb1, by omega, by omega, rfl⟩
  case round =>
    obtain ⟨k, acc, hk, rfl, rfl, hb, ha1, ha2, HA⟩ := hrel
    by_cases hlt : k < l.length
    · obtain ⟨r, hr⟩ : ∃ d, l[k]? = some d := ⟨_, List.getElem?_eq_getElem hlt⟩
      obtain ⟨b, o, rfl, u, hu, x0⟩ := sl_at (HV.out.below hb) hr
      have hrr := HR.out.2.1 r (List.mem_of_getElem? hr)
      obtain ⟨hl8, _, hch⟩ := rec_ok hrr
      have hc := rget_any r nm u wr hu hch (by omega)
      obtain ⟨A1, c1, rfl, _, _⟩ := hu.form
      have HS := Lib.hid (sumR_step hr HA.out)
      have HSM : Hid (¬ (rhas r nm = true ∧ (getW r nm).ty ≠ 1) → -1000000 ≤ (getW r nm).n ∧ (getW r nm).n ≤ 1000000) := getW_small hrr
      have hlt' : (k : Int) < (l.length : Int) := by omega
      clear hr hu hrr hch HA
      generalize getW r nm = V at *
      obtain ⟨ty, n, s⟩ := V
      go_wp2_with fail
      refine hc.mono ?_
      clear hc
      rintro e w2 ⟨rfl, hb2⟩
      have hB2 := hb.trans (hb2.mono hb.size)
      have hB3 := hB2.alloc hB2.size (.cells #[.int .i64 ty, .int .i64 n, .string s] 40)
      obtain ⟨z0, z1, z2⟩ := cell_box3 w2 (.int .i64 ty) (.int .i64 n) (.string s) 40
      by_cases hbad : rhas r nm = true ∧ ty ≠ 1
      · have HE2 : Hid (rsumR l nm = (0, 8)) := by unfold Hid; rw [HE.out, HS.out, if_pos hbad]
        obtain ⟨hq, hty⟩ := hbad
        rw [hq]
        clear hq HS HSM
        go_wp2_with fail
        go_ret2
        exact ⟨by rw [HE2.out]; rfl, hB3⟩
      · have HN : Hid (sumR nm 0 l = sumR nm (acc + n) (l.drop (k + 1))) := by unfold Hid; rw [HS.out, if_neg hbad]
        obtain ⟨n1, n2⟩ := HSM.out hbad
        clear HS HSM
        cases hq : rhas r nm with
        | false =>
          clear hq hbad
          go_wp2_with fail
          go_roundw
          case rel => exact ⟨k + 1, acc + n, by omega, by go_num, by go_num, hB3, by omega, by omega, HN⟩
          case measure => simp [intOf]; omega
        | true =>
          have hty : ty = 1 := by
            rcases Int.decEq ty 1 with hne | he
            · exact absurd ⟨hq, hne⟩ hbad
            · exact he
          subst hty
          clear hq hbad
          go_wp2_with fail
          go_roundw
          case rel => exact ⟨k + 1, acc + n, by omega, by go_num, by go_num, hB3, by omega, by omega, HN⟩
          case measure => simp [intOf]; omega
    · obtain rfl : k = l.length := by omega
      have HE2 : Hid (rsumR l nm = (acc, 0)) := by unfold Hid; rw [HE.out, HA.out, List.drop_length]; rfl
      clear HA
      go_wp2_with fail
      go_ret2
      exact ⟨by rw [HE2.out, errV_zero rfl]; rfl, hb⟩
end Go.Proofs.YtdfeloeainabjaaDoor
