/- Contracts: kind.ready, kind.Kin, kind.IsKin, kind.Is, kind.Fields. -/
import Derived.Test.YtdfeloeainabjaaDoorKinJ
namespace Go.Proofs.YtdfeloeainabjaaDoor
open Go Go.RowKit

/-- A list and an error. -/
def RetL {D : Type} (L : Lay D) (l : List D) (err : Int) (w : World) (e : Ending) (w' : World) : Prop := ∃ v, e = .returned (.tuple #[v, errV err]) ∧ Sl L w' v l ∧ Below w.heap.size w w'

def strV (_ : World) (d : ByteArray) (u : Value) : Prop := u = .string d ∧ Sm d
set_option maxHeartbeats 400000 in
theorem idx_strs (g : Nat) (caps : Array Value) (eg : ∀ args w, (callFunc g args).run Tryd.prog w = .ok (.enter g args) w) (p : ByteArray → Bool) (l : List (ByteArray)) (v : Value) (w : World) (hv : Sl strL w v l)
    (hp : PredB Tryd.prog g caps strV p w) :
    Calls Tryd.prog 89 #[v, .func (.func g) #[] caps] w fun e w' => e = .returned (.int .i64 (idxI p l)) ∧ Below w.heap.size w w' := by
  obtain ⟨A, c, rfl, hlc, hcm⟩ := hv.form
  unfold maxLen at hcm
  go_enter Tryd.func89, Tryd.ntmps89
  go_wp2_with fail
  go_loopw [8] (fun i wr => ∃ k : Nat, k ≤ l.length ∧ i = .int .i64 k ∧ Below w.heap.size w wr ∧ Hid (∀ j x, j < k → l[j]? = some x → p x = false)) (fun i _ => l.length - (intOf i).toNat)
  case atStart => exact ⟨0, Nat.zero_le _, rfl, Below.refl _ _, fun j x hj => absurd hj (Nat.not_lt_zero _)⟩
  case round =>
    obtain ⟨k, hk, rfl, hb, HA⟩ := hrel
    by_cases hlt : k < l.length
    · obtain ⟨d, hd⟩ : ∃ d, l[k]? = some d := ⟨_, List.getElem?_eq_getElem hlt⟩
      obtain ⟨b, o, rfl, hsm, hcell⟩ := str_at (hv.below hb) hd
      have hcall := hp d _ wr hb ⟨rfl, hsm⟩
      have HD : Hid (l[k]? = some d) := hd
      clear hd hp hv
      cases hq : p d with
      | true =>
        rw [hq] at hcall
        have HQ : Hid (p d = true) := hq
        clear hq
        go_wp2_with (go_at_fn g; refine hcall.mono ?_; rintro e w' ⟨rfl, hb2⟩)
        go_ret
        exact ⟨ret_int (idxI_hit HA.out HD.out HQ.out).symm, hb.trans (hb2.mono hb.size)⟩
      | false =>
        rw [hq] at hcall
        have HQ : Hid (p d = false) := hq
        clear hq
        go_wp2_with (go_at_fn g; refine hcall.mono ?_; rintro e w' ⟨rfl, hb2⟩)
        go_roundw
        case rel => exact ⟨k + 1, by omega, by go_num, hb.trans (hb2.mono hb.size), miss_step HA.out HD.out HQ.out⟩
        case measure => simp [intOf]; omega
    · have hkl : k = l.length := by omega
      subst hkl
      clear hp hv
      go_wp2_with fail
      go_ret
      exact ⟨ret_int (idxI_miss HA.out).symm, hb⟩
theorem has_strs (g : Nat) (caps : Array Value) (eg : ∀ args w, (callFunc g args).run Tryd.prog w = .ok (.enter g args) w) (p : ByteArray → Bool) (l : List (ByteArray)) (v : Value) (w : World) (hv : Sl strL w v l)
    (hp : PredB Tryd.prog g caps strV p w) :
    Calls Tryd.prog 70 #[v, .func (.func g) #[] caps] w fun e w' => e = .returned (.bool (l.any p)) ∧ Below w.heap.size w w' := by
  have h1 := idx_strs g caps eg p l v w hv hp
  have h2 := idxI_any p l
  have H2 := Lib.hid h2
  clear h2 hv hp eg
  go_enter Tryd.func70, Tryd.ntmps70
  go_wp2_with (go_at_call 89; refine h1.mono ?_; rintro e w' ⟨rfl, hb⟩)
  go_ret
  exact ⟨ret_bool H2.out, hb⟩

theorem ready1_any (l : List Knd) (s : ByteArray) (v : Value) (bk : Nat) (w : World) (hv : Sl kndL w v l) (hc : w.cell? ⟨bk, 0, none⟩ = some v) :
    Calls Tryd.prog 71 #[.string s, .pointer (some ⟨bk, 0, none⟩)] w fun e w' => e = .returned (.bool (decide (kFind l s < 0))) ∧ Below w.heap.size w w' := by
  have h1 := kFind_any l s v w hv
  obtain ⟨A, c, rfl, _, _⟩ := hv.form
  clear hv
  generalize kFind l s = z at *
  go_enter Tryd.func71, Tryd.ntmps71
  go_wp2_with fail
  refine h1.mono ?_
  rintro e w' ⟨rfl, hb⟩
  go_wp2_with fail
  go_ret
  exact ⟨rfl, hb⟩
def readyE (l : List Knd) (names : List ByteArray) : Int := if (checkE l).2 = 0 then (if names.any (fun s => decide (kFind l s < 0)) then 5 else 0) else (checkE l).2
theorem readyE_zero {l : List Knd} {names : List ByteArray} (h : readyE l names = 0) : Right l ∧ ∀ s ∈ names, 0 ≤ kFind l s := by
  unfold readyE at h
  split at h
  · rename_i h0
    split at h
    · omega
    · rename_i h1
      refine ⟨checkE_zero h0, fun s hs => ?_⟩
      rcases Int.lt_or_le (kFind l s) 0 with h2 | h2
      · exact absurd (List.any_eq_true.2 ⟨s, hs, decide_eq_true h2⟩) h1
      · exact h2
  · rename_i h0; exact absurd h h0
set_option maxHeartbeats 1000000 in
theorem ready_any (l : List Knd) (names : List ByteArray) (v vn : Value) (w : World) (hv : Sl kndL w v l) (hn : Sl strL w vn names) :
    Calls Tryd.prog 48 #[v, vn] w fun e w' => e = .returned (errV (readyE l names)) ∧ Below w.heap.size w w' := by
  have hb0 : Below w.heap.size w (w.alloc (.cells #[v] 53)) := (Below.refl _ _).alloc (Nat.le_refl _) _
  have hc0 : (w.alloc (.cells #[v] 53)).cell? ⟨w.heap.size, 0, none⟩ = some v := by rw [World.cell?_alloc_at _ _ _ _ rfl]; rfl
  have h1 := kcheck_any l v _ (hv.below hb0)
  obtain ⟨A, c, rfl, _, _⟩ := hv.form
  obtain ⟨An, cn, rfl, _, _⟩ := hn.form
  have HV := Lib.hid hv
  have HN := Lib.hid hn
  clear hv hn
  go_enter Tryd.func48, Tryd.ntmps48
  go_wp2_with fail
  refine h1.mono ?_
  clear h1
  rintro e w1 ⟨rfl, hb1⟩
  have hB1 := hb0.trans (hb1.mono hb0.size)
  have hc1 := cell_below hb1 hc0
  clear hc0
  by_cases he : (checkE l).2 = 0
  · have HE : Hid (readyE l names = if names.any (fun s => decide (kFind l s < 0)) then 5 else 0) := by unfold Hid readyE; rw [if_pos he]
    rw [errV_zero he]
    clear he
    have h2 := has_strs 71 #[.pointer (some ⟨w.heap.size, 0, none⟩)] (by intro args w; kernel_rfl) (fun s => decide (kFind l s < 0)) names _ w1 (HN.out.below hB1)
      (fun d u wx hx hu => by obtain ⟨rfl, _⟩ := hu; exact ready1_any l d _ w.heap.size wx (HV.out.below (hB1.trans (hx.mono hB1.size))) (cell_below hx hc1))
    go_wp2_with fail
    refine h2.mono ?_
    clear h2
    rintro e w2 ⟨rfl, hb2⟩
    have hB2 := hB1.trans (hb2.mono hB1.size)
    cases hq : names.any (fun s => decide (kFind l s < 0)) with
    | true =>
      have HE2 : Hid (readyE l names = 5) := by unfold Hid; rw [HE.out, hq]; rfl
      clear HE hq
      go_wp2_with fail
      go_ret
      exact ⟨by rw [HE2.out, errV5]; rfl, hB2⟩
    | false =>
      have HE2 : Hid (readyE l names = 0) := by unfold Hid; rw [HE.out, hq]; rfl
      clear HE hq
      go_wp2_with fail
      go_ret
      exact ⟨by rw [HE2.out, errV0]; rfl, hB2⟩
  · have HE : Hid (errV (readyE l names) = .iface 80 (.int .i64 (checkE l).2)) := by unfold Hid readyE; rw [if_neg he, errV_some he]
    rw [errV_some he]
    clear he
    go_wp2_with fail
    go_ret
    exact ⟨by rw [HE.out]; rfl, hB1⟩
def isKinB (l : List Knd) (a b : ByteArray) : Bool := (kinL l a).any fun y => decide (b = y)
theorem isKin_any (l : List Knd) (a b : ByteArray) (v : Value) (w : World) (hv : Sl kndL w v l) (ha : Sm a) (hll : l.length ≤ 64) (hofs : ∀ k ∈ l, k.ofs.length ≤ 64) :
    Calls Tryd.prog 50 #[v, .string a, .string b] w fun e w' => e = .returned (.bool (isKinB l a b)) ∧ Below w.heap.size w w' := by
  have h1 := kinOf_any l a v w hv ha hll hofs
  obtain ⟨A, c, rfl, _, _⟩ := hv.form
  clear hv hofs
  go_enter Tryd.func50, Tryd.ntmps50
  go_wp2_with fail
  refine h1.mono ?_
  clear h1
  rintro e w1 ⟨u, rfl, hu, hb1⟩
  have h2 := containsStr_any (kinL l a) b u w1 hu
  obtain ⟨A1, c1, rfl, _, _⟩ := hu.form
  clear hu
  go_wp2_with fail
  refine h2.mono ?_
  clear h2
  rintro e w2 ⟨rfl, rfl⟩
  have HB : Hid (((kinL l a).any fun y => decide (b = y)) = isKinB l a b) := rfl
  generalize ((kinL l a).any fun y => decide (b = y)) = q at *
  go_wp2_with fail
  go_ret
  exact ⟨ret_bool HB.out, hb1⟩

def kinR (l : List Knd) (name : ByteArray) : List ByteArray := if readyE l [name] = 0 then kinL l name else []
set_option maxHeartbeats 1000000 in
theorem kin_any (l : List Knd) (name : ByteArray) (v : Value) (w : World) (hv : Sl kndL w v l) (hnm : Sm name) :
    Calls Tryd.prog 18 #[v, .string name] w (RetL strL (kinR l name) (readyE l [name]) w) := by
  have hb0 : Below w.heap.size w (w.alloc (.cells #[.string name] 9)) := (Below.refl _ _).alloc (Nat.le_refl _) _
  have h1 := ready_any l [name] v (.slice (some ⟨w.heap.size, 0, none⟩) 1 1) _ (hv.below hb0) (sl_strs [name] (fun x hx => by simp at hx; subst hx; exact hnm) (by simp [maxLen]) (heap_alloc_new _ _))
  have HV := Lib.hid hv
  obtain ⟨A, c, rfl, _, _⟩ := hv.form
  clear hv
  go_enter Tryd.func18, Tryd.ntmps18
  go_wp2_with fail
  refine h1.mono ?_
  clear h1
  rintro e w1 ⟨rfl, hb1⟩
  have hB1 := hb0.trans (hb1.mono hb0.size)
  by_cases he : readyE l [name] = 0
  · obtain ⟨hR, _⟩ := readyE_zero he
    have HE : Hid (readyE l [name] = 0 ∧ kinR l name = kinL l name) := ⟨he, by unfold kinR; rw [if_pos he]⟩
    rw [errV_zero he]
    clear he
    have h2 := kinOf_any l name _ w1 (HV.out.below hB1) hnm (by have := hR.len; omega) (fun k hk => by
      obtain ⟨i, hi⟩ := List.mem_iff_getElem?.1 hk
      have := (hR.one i k hi).ofl; omega)
    clear hR
    go_wp2_with fail
    refine h2.mono ?_
    clear h2
    rintro e w2 ⟨u, rfl, hu, hb2⟩
    have hB2 := hB1.trans (hb2.mono hB1.size)
    have HU := Lib.hid hu
    obtain ⟨A1, c1, rfl, _, _⟩ := hu.form
    clear hu
    go_wp2_with fail
    go_ret2
    exact ⟨.slice A1 (kinL l name).length c1, by rw [HE.out.1, errV0]; rfl, by rw [HE.out.2]; exact HU.out, hB2⟩
  · have HE : Hid (errV (readyE l [name]) = .iface 80 (.int .i64 (readyE l [name])) ∧ kinR l name = []) := ⟨errV_some he, by unfold kinR; rw [if_neg he]⟩
    rw [errV_some he]
    clear he
    go_wp2_with fail
    go_ret2
    exact ⟨.slice none 0 0, by rw [HE.out.1]; rfl, by rw [HE.out.2]; exact Sl.nil 0 (Nat.zero_le _) none, hB1⟩
def fieldsR (l : List Knd) (name : ByteArray) : List Fld := if readyE l [name] = 0 then (fieldsOf l name).getD [] else []
set_option maxHeartbeats 1000000 in
theorem kfields_any (l : List Knd) (name : ByteArray) (v : Value) (w : World) (hv : Sl kndL w v l) (hnm : Sm name) :
    Calls Tryd.prog 20 #[v, .string name] w (RetL fldL (fieldsR l name) (readyE l [name]) w) := by
  have hb0 : Below w.heap.size w (w.alloc (.cells #[.string name] 9)) := (Below.refl _ _).alloc (Nat.le_refl _) _
  have h1 := ready_any l [name] v (.slice (some ⟨w.heap.size, 0, none⟩) 1 1) _ (hv.below hb0) (sl_strs [name] (fun x hx => by simp at hx; subst hx; exact hnm) (by simp [maxLen]) (heap_alloc_new _ _))
  have HV := Lib.hid hv
  obtain ⟨A, c, rfl, _, _⟩ := hv.form
  clear hv
  go_enter Tryd.func20, Tryd.ntmps20
  go_wp2_with fail
  refine h1.mono ?_
  clear h1
  rintro e w1 ⟨rfl, hb1⟩
  have hB1 := hb0.trans (hb1.mono hb0.size)
  by_cases he : readyE l [name] = 0
  · obtain ⟨hR, _⟩ := readyE_zero he
    have HE : Hid (readyE l [name] = 0 ∧ fieldsR l name = (fieldsOf l name).getD []) := ⟨he, by unfold fieldsR; rw [if_pos he]⟩
    rw [errV_zero he]
    clear he
    have h2 := fieldsOf_any l name _ w1 (HV.out.below hB1) hnm (by have := hR.len; omega) (fun k hk => by
      obtain ⟨i, hi⟩ := List.mem_iff_getElem?.1 hk
      have := (hR.one i k hi).ofl; omega) (fun k hk => by
      obtain ⟨i, hi⟩ := List.mem_iff_getElem?.1 hk
      exact (hR.one i k hi).fll)
    clear hR
    go_wp2_with fail
    refine h2.mono ?_
    clear h2
    rintro e w2 ⟨u, rfl, hu, hb2⟩
    have hB2 := hB1.trans (hb2.mono hB1.size)
    have HU := Lib.hid hu
    generalize (fieldsOf l name).isSome = q
    generalize (fieldsOf l name).getD [] = fs at *
    obtain ⟨A1, c1, rfl, _, _⟩ := hu.form
    clear hu
    go_wp2_with fail
    go_ret2
    exact ⟨.slice A1 fs.length c1, by rw [HE.out.1, errV0]; rfl, by rw [HE.out.2]; exact HU.out, hB2⟩
  · have HE : Hid (errV (readyE l [name]) = .iface 80 (.int .i64 (readyE l [name])) ∧ fieldsR l name = []) := ⟨errV_some he, by unfold fieldsR; rw [if_neg he]⟩
    rw [errV_some he]
    clear he
    go_wp2_with fail
    go_ret2
    exact ⟨.slice none 0 0, by rw [HE.out.1]; rfl, by rw [HE.out.2]; exact Sl.nil 0 (Nat.zero_le _) none, hB1⟩
def isR (l : List Knd) (a b : ByteArray) : Bool := if readyE l [a, b] = 0 then isKinB l a b else false
set_option maxHeartbeats 1000000 in
theorem is_any (l : List Knd) (a b : ByteArray) (v : Value) (w : World) (hv : Sl kndL w v l) (ha : Sm a) (hb : Sm b) :
    Calls Tryd.prog 30 #[v, .string a, .string b] w fun e w' => e = .returned (.tuple #[.bool (isR l a b), errV (readyE l [a, b])]) ∧ Below w.heap.size w w' := by
  have hb0 : Below w.heap.size w (w.alloc (.cells #[.string a, .string b] 9)) := (Below.refl _ _).alloc (Nat.le_refl _) _
  have h1 := ready_any l [a, b] v (.slice (some ⟨w.heap.size, 0, none⟩) 2 2) _ (hv.below hb0) (sl_strs [a, b] (fun x hx => by simp at hx; rcases hx with rfl | rfl; exact ha; exact hb) (by simp [maxLen]) (heap_alloc_new _ _))
  have HV := Lib.hid hv
  obtain ⟨A, c, rfl, _, _⟩ := hv.form
  clear hv
  go_enter Tryd.func30, Tryd.ntmps30
  go_wp2_with fail
  refine h1.mono ?_
  clear h1
  rintro e w1 ⟨rfl, hb1⟩
  have hB1 := hb0.trans (hb1.mono hb0.size)
  by_cases he : readyE l [a, b] = 0
  · obtain ⟨hR, _⟩ := readyE_zero he
    have HE : Hid (readyE l [a, b] = 0 ∧ isR l a b = isKinB l a b) := ⟨he, by unfold isR; rw [if_pos he]⟩
    rw [errV_zero he]
    clear he
    have h2 := isKin_any l a b _ w1 (HV.out.below hB1) ha (by have := hR.len; omega) (fun k hk => by
      obtain ⟨i, hi⟩ := List.mem_iff_getElem?.1 hk
      have := (hR.one i k hi).ofl; omega)
    clear hR
    go_wp2_with fail
    refine h2.mono ?_
    clear h2
    rintro e w2 ⟨rfl, hb2⟩
    have hB2 := hB1.trans (hb2.mono hB1.size)
    go_wp2_with fail
    go_ret2
    exact ⟨by rw [HE.out.1, HE.out.2, errV0]; rfl, hB2⟩
  · have HE : Hid (errV (readyE l [a, b]) = .iface 80 (.int .i64 (readyE l [a, b])) ∧ isR l a b = false) := ⟨errV_some he, by unfold isR; rw [if_neg he]⟩
    rw [errV_some he]
    clear he
    go_wp2_with fail
    go_ret2
    exact ⟨by rw [HE.out.1, HE.out.2]; rfl, hB1⟩
end Go.Proofs.YtdfeloeainabjaaDoor
