/- Parts: ValA, ValB. -/
import Derived.Test.YtakidgndipnciaaDoorRows
import Derived.Test.YtakidgndipnciaaDoorMg01
import Derived.Deep.LoopGhost
import Derived.Shelf.GgClosure.Gives
import Derived.Lib.ConvBytes
/- Contracts: what value.Name, value.Check, record.prop and record.Check of the program answer, for every input that is not too long; plain functions on bytes beside them. -/
namespace Go.Proofs.YtakidgndipnciaaDoor
open Go.RowKit

/-- The place of the first that meets p; -1: none does. -/
def idxI {D : Type} (p : D → Bool) (l : List D) : Int := match l.findIdx? p with | some i => i | none => -1
theorem idxI_hit {D : Type} {p : D → Bool} {l : List D} {k : Nat} {d : D} (h1 : ∀ j x, j < k → l[j]? = some x → p x = false) (h2 : l[k]? = some d) (h3 : p d = true) : idxI p l = k := by
  unfold idxI
  have : l.findIdx? p = some k := by
    rw [List.findIdx?_eq_some_iff_getElem]
    obtain ⟨hk, rfl⟩ := List.getElem?_eq_some_iff.1 h2
    exact ⟨hk, h3, fun j hj => by simp [h1 j _ hj (List.getElem?_eq_getElem (by omega))]⟩
  rw [this]
theorem idxI_miss {D : Type} {p : D → Bool} {l : List D} (h1 : ∀ j x, j < l.length → l[j]? = some x → p x = false) : idxI p l = -1 := by
  unfold idxI
  have : l.findIdx? p = none := by
    rw [List.findIdx?_eq_none_iff]
    intro x hx
    obtain ⟨j, hj, rfl⟩ := List.getElem_of_mem hx
    exact h1 j _ hj (List.getElem?_eq_getElem hj)
  rw [this]
theorem idxI_any {D : Type} (p : D → Bool) (l : List D) : decide ((0 : Int) ≤ idxI p l) = l.any p := by
  unfold idxI
  cases h : l.findIdx? p with
  | none =>
    rw [List.findIdx?_eq_none_iff] at h
    have : l.any p = false := by rw [List.any_eq_false]; intro x hx; simp [h x hx]
    rw [this]; rfl
  | some i =>
    obtain ⟨hi, hp, _⟩ := List.findIdx?_eq_some_iff_getElem.1 h
    have : l.any p = true := List.any_eq_true.2 ⟨_, List.getElem_mem hi, hp⟩
    rw [this]; simp
theorem miss_step {D : Type} {p : D → Bool} {l : List D} {k : Nat} {d : D} (h1 : ∀ j x, j < k → l[j]? = some x → p x = false) (h2 : l[k]? = some d) (h3 : p d = false) : ∀ j x, j < k + 1 → l[j]? = some x → p x = false := by
  intro j x hj hx
  by_cases e : j = k
  · subst e
    have := h2.symm.trans hx
    cases this
    exact h3
  · exact h1 j x (by omega) hx

/-- What is asked of a function value: on each element, in every later world, it answers p and leaves what there was. -/
def PredB {D : Type} (P : Program) (g : Nat) (caps : Array Value) (V : World → D → Value → Prop) (p : D → Bool) (w : World) : Prop :=
  ∀ x u wx, Below w.heap.size w wx → V wx x u → Calls P g (#[u] ++ caps) wx (fun e w' => e = .returned (.bool (p x)) ∧ Below wx.heap.size wx w')

set_option maxHeartbeats 400000 in
theorem idx_byte (g : Nat) (caps : Array Value) (eg : ∀ args w, (callFunc g args).run Tryd.prog w = .ok (.enter g args) w) (p : UInt8 → Bool) (l : List UInt8) (v : Value) (w : World) (hv : Sl byteL w v l)
    (hp : PredB Tryd.prog g caps (fun _ x u => u = .int .u8 x.toNat) p w) :
    Calls Tryd.prog 17 #[v, .func (.func g) #[] caps] w fun e w' => e = .returned (.int .i64 (idxI p l)) ∧ Below w.heap.size w w' := by
  obtain ⟨A, c, rfl, hlc, hcm⟩ := hv.form
  unfold maxLen at hcm
  go_enter Tryd.func17, Tryd.ntmps17
  go_wp2_with fail
  go_loopw [8] (fun i wr => ∃ k : Nat, k ≤ l.length ∧ i = .int .i64 k ∧ Below w.heap.size w wr ∧ Hid (∀ j x, j < k → l[j]? = some x → p x = false)) (fun i _ => l.length - (intOf i).toNat)
  case atStart => exact ⟨0, Nat.zero_le _, rfl, Below.refl _ _, fun j x hj => absurd hj (Nat.not_lt_zero _)⟩
  case round =>
    obtain ⟨k, hk, rfl, hb, HA⟩ := hrel
    by_cases hlt : k < l.length
    · obtain ⟨d, hd⟩ : ∃ d, l[k]? = some d := ⟨_, List.getElem?_eq_getElem hlt⟩
      obtain ⟨b, o, rfl, hcell⟩ := byte_at (hv.below hb) hd
      have HD : Hid (l[k]? = some d) := hd
      clear hd
      have hcall := hp d _ wr hb rfl
      clear hp hv
      cases hq : p d with
      | true =>
        rw [hq] at hcall
        have HQ : Hid (p d = true) := hq
        clear hq
        go_wp2_with (go_at_fn g; refine hcall.mono ?_; rintro e w' ⟨rfl, hb2⟩)
        go_ret
        exact ⟨ret_int (idxI_hit HA.out HD.out HQ.out).symm, hb.trans (hb2.mono hb.size)⟩
      | false =>
        rw [hq] at hcall
        have HQ : Hid (p d = false) := hq
        clear hq
        go_wp2_with (go_at_fn g; refine hcall.mono ?_; rintro e w' ⟨rfl, hb2⟩)
        go_roundw
        case rel => exact ⟨k + 1, by omega, by go_num, hb.trans (hb2.mono hb.size), miss_step HA.out HD.out HQ.out⟩
        case measure => simp [intOf]; omega
    · have hkl : k = l.length := by omega
      subst hkl
      go_wp2_with fail
      go_ret
      exact ⟨ret_int (idxI_miss HA.out).symm, hb⟩

theorem has_byte (g : Nat) (caps : Array Value) (eg : ∀ args w, (callFunc g args).run Tryd.prog w = .ok (.enter g args) w) (p : UInt8 → Bool) (l : List UInt8) (v : Value) (w : World) (hv : Sl byteL w v l)
    (hp : PredB Tryd.prog g caps (fun _ x u => u = .int .u8 x.toNat) p w) :
    Calls Tryd.prog 10 #[v, .func (.func g) #[] caps] w fun e w' => e = .returned (.bool (l.any p)) ∧ Below w.heap.size w w' := by
  have h1 := idx_byte g caps eg p l v w hv hp
  have h2 := idxI_any p l
  have H2 := Lib.hid h2
  clear h2 hv hp eg
  go_enter Tryd.func10, Tryd.ntmps10
  go_wp2_with (go_at_call 17; refine h1.mono ?_; rintro e w' ⟨rfl, hb⟩)
  go_ret
  exact ⟨ret_bool H2.out, hb⟩

/-- '[]byte(s)': a new row that reads as the text's bytes. -/
theorem bytes_sl (w : World) (s : ByteArray) (hs : Sm s) : Sl byteL (Lib.bytesWorld w 5 s) (.slice (some ⟨w.heap.size, 0, none⟩) s.size (grownCap w s.size 0 5)) s.data.toList ∧ Below w.heap.size w (Lib.bytesWorld w 5 s) := by
  have e : s.data.toList.length = s.size := by rw [Array.length_toList]; rfl
  refine ⟨⟨some ⟨w.heap.size, 0, none⟩, grownCap w s.size 0 5, by rw [e], by rw [e]; exact grownCap_ge _ _ _ _, ?_, ?_⟩, ⟨rfl, rfl, rfl, by rw [Lib.bytesWorld_size]; omega, fun k hk => Lib.bytesWorld_at_old w 5 s k hk⟩⟩
  · exact grownCap_le_maxLen _ _ _ _ (by unfold Sm at hs; unfold maxLen; omega)
  · intro i d hi
    refine ⟨_, _, _, rfl, ⟨rfl, trivial⟩, fun j u hj => ?_⟩
    have hlt : i < s.size := by rw [← e]; exact (List.getElem?_eq_some_iff.1 hi).1
    match j, hj with
    | 0, hj =>
      simp at hj
      subst hj
      have := Lib.bytesWorld_cell w 5 s i hlt
      simpa [byteL, flatL, List.getD, hi] using this

/-! ### value.Name -/
def nameC (c : UInt8) : Bool := decide ((c.toNat : Int) < 97) || decide (122 < (c.toNat : Int))
def nameE (s : ByteArray) : Int := if s.toList.isEmpty then 2 else if 8 < s.size then 2 else if s.data.toList.any nameC then 2 else 0
theorem name1 (c : UInt8) (w : World) :
    Calls Tryd.prog 11 #[.int .u8 c.toNat] w fun e w' => e = .returned (.bool (nameC c)) ∧ w = w' := by
  unfold nameC
  go_enter Tryd.func11, Tryd.ntmps11
  go_wp2
  all_goals go_ret
  all_goals exact ⟨rfl, rfl⟩
theorem name_any (s : ByteArray) (w : World) (hs : Sm s) :
    Calls Tryd.prog 5 #[.string s] w fun e w' => e = .returned (errV (nameE s)) ∧ Below w.heap.size w w' := by
  have hcv := fun wx => Lib.run_convert_string_bytes (P := Tryd.prog) wx 9 44 5 s Tryd.underlying9 Tryd.underlying44 Tryd.underlying5
  obtain ⟨hsl, hb⟩ := bytes_sl w s hs
  have hcall := has_byte 11 #[] (by intro args w; kernel_rfl) nameC s.data.toList _ _ hsl (fun x u wx _ hu => by subst hu; exact (name1 x wx).mono fun e w' ⟨h1, h2⟩ => ⟨h1, h2 ▸ Below.refl _ _⟩)
  have HF : Hid (nameE s = if s.toList.isEmpty then 2 else if 8 < s.size then 2 else if s.data.toList.any nameC then 2 else 0) := rfl
  clear hsl
  have hs' : s.size ≤ 1048576 := hs
  clear hs
  by_cases h0 : s.toList.isEmpty = true
  · have HE : Hid (errV (nameE s) = .iface 46 (.int .i64 2)) := by rw [HF.out, if_pos h0]; rfl
    clear hcall
    go_enter Tryd.func5, Tryd.ntmps5
    go_wp2_with fail
    go_ret
    exact ⟨by rw [HE.out]; rfl, Below.refl _ _⟩
  · have h0' : s.toList.isEmpty = false := by simpa using h0
    by_cases h8 : 8 < s.size
    · have HE : Hid (errV (nameE s) = .iface 46 (.int .i64 2)) := by rw [HF.out, if_neg h0, if_pos h8]; rfl
      have h8' : (8 : Int) < (s.size : Int) := by omega
      clear hcall h0
      go_enter Tryd.func5, Tryd.ntmps5
      go_wp2_with fail
      go_ret
      exact ⟨by rw [HE.out]; rfl, Below.refl _ _⟩
    · have h8' : decide ((8 : Int) < (s.size : Int)) = false := by simp; omega
      have h8'' : (s.size : Int) ≤ 8 := by omega
      clear h0
      cases hq : s.data.toList.any nameC with
      | true =>
        have HE : Hid (errV (nameE s) = .iface 46 (.int .i64 2)) := by rw [HF.out, h0', if_neg (by simp), if_neg h8, hq]; rfl
        rw [hq] at hcall
        clear hq
        go_enter Tryd.func5, Tryd.ntmps5
        go_wp2_with (go_at_call 10; refine hcall.mono ?_; rintro e w' ⟨rfl, hb2⟩)
        go_ret
        exact ⟨by rw [HE.out]; rfl, hb.trans (hb2.mono hb.size)⟩
      | false =>
        have HE : Hid (errV (nameE s) = .nilIface) := by rw [HF.out, h0', if_neg (by simp), if_neg h8, hq]; rfl
        rw [hq] at hcall
        clear hq
        go_enter Tryd.func5, Tryd.ntmps5
        go_wp2_with (go_at_call 10; refine hcall.mono ?_; rintro e w' ⟨rfl, hb2⟩)
        go_ret
        exact ⟨by rw [HE.out]; rfl, hb.trans (hb2.mono hb.size)⟩

def strC (c : UInt8) : Bool := decide ((c.toNat : Int) < 32) || decide (126 < (c.toNat : Int))
theorem check1 (c : UInt8) (w : World) :
    Calls Tryd.prog 41 #[.int .u8 c.toNat] w fun e w' => e = .returned (.bool (strC c)) ∧ w = w' := by
  unfold strC
  go_enter Tryd.func41, Tryd.ntmps41
  go_wp2
  all_goals go_ret
  all_goals exact ⟨rfl, rfl⟩

/-- The least and the greatest number of a type. -/
def valLo (ty : Int) : Int := if ty = 1 then -1000000 else 0
def valHi (ty : Int) : Int := if ty = 1 then 1000000 else if ty = 2 then 1 else 0
/-- The fault of a value. -/
def valE (v : Val) : Int :=
  if v.ty = 1 ∨ v.ty = 2 ∨ v.ty = 3 then
    if v.n < valLo v.ty ∨ valHi v.ty < v.n then 1
    else if v.ty = 3 ∧ 20 < v.s.size then 4
    else if v.s.data.toList.any strC = true ∨ (v.ty ≠ 3 ∧ v.s.toList.isEmpty = false) then 2
    else 0
  else 8

/-- The call inside Check: strange bytes. -/
theorem strange_any (ty n : Int) (s : ByteArray) (w W0 : World) (hW : W0 = w.alloc (.cells #[.int .i64 ty, .int .i64 n, .string s] 38)) (hs : Sm s) :
    Calls Tryd.prog 10 #[.slice (some ⟨w.heap.size + 1, 0, none⟩) s.size (grownCap W0 s.size 0 5), .func (.func 41) #[] #[]] (Lib.bytesWorld W0 5 s)
      fun e w' => e = .returned (.bool (s.data.toList.any strC)) ∧ Below w.heap.size w w' ∧ w'.cell? ⟨w.heap.size, 0, none⟩ = some (.int .i64 ty) ∧ w'.cell? ⟨w.heap.size, 1, none⟩ = some (.int .i64 n) ∧
        w'.cell? ⟨w.heap.size, 2, none⟩ = some (.string s) := by
  obtain ⟨hsl, hb⟩ := bytes_sl W0 s hs
  have hsz : W0.heap.size = w.heap.size + 1 := by subst hW; simp
  rw [hsz] at hsl
  refine (has_byte 41 #[] (by intro args w; kernel_rfl) strC s.data.toList _ _ hsl (fun x u wx _ hu => by subst hu; exact (check1 x wx).mono fun e w' ⟨h1, h2⟩ => ⟨h1, h2 ▸ Below.refl _ _⟩)).mono ?_
  rintro e w' ⟨he, hb2⟩
  have hb3 : Below W0.heap.size W0 w' := hb.trans (hb2.mono hb.size)
  refine ⟨he, ?_, cell_below hb3 ?_, cell_below hb3 ?_, cell_below hb3 ?_⟩
  · refine Below.trans (b := W0) (by subst hW; exact (Below.refl _ _).alloc (Nat.le_refl _) _) (hb3.mono (by subst hW; simp))
  all_goals subst hW; rw [World.cell?_alloc_at _ _ _ _ rfl]; rfl

section
variable (ty n : Int) (s : ByteArray) (w : World)
theorem check_bad (h : ¬ (ty = 1 ∨ ty = 2 ∨ ty = 3)) :
    Calls Tryd.prog 28 #[.agg #[.int .i64 ty, .int .i64 n, .string s]] w fun e w' => e = .returned (errV (valE ⟨ty, n, s⟩)) ∧ Below w.heap.size w w' := by
  have HE : Hid (errV (valE ⟨ty, n, s⟩) = .iface 46 (.int .i64 8)) := by unfold valE; rw [if_neg h]; rfl
  have h1 : (ty == 1) = false := by simp; omega
  have h2 : (ty == 2) = false := by simp; omega
  have h3 : (ty == 3) = false := by simp; omega
  clear h
  go_enter Tryd.func28, Tryd.ntmps28
  go_wp2_with fail
  go_ret
  exact ⟨by rw [HE.out]; rfl, (Below.refl _ _).alloc (Nat.le_refl _) _⟩
set_option maxHeartbeats 1000000 in
theorem check_int (hs : Sm s) :
    Calls Tryd.prog 28 #[.agg #[.int .i64 1, .int .i64 n, .string s]] w fun e w' => e = .returned (errV (valE ⟨1, n, s⟩)) ∧ Below w.heap.size w w' := by
  have hcv := fun wx => Lib.run_convert_string_bytes (P := Tryd.prog) wx 9 44 5 s Tryd.underlying9 Tryd.underlying44 Tryd.underlying5
  have hcall := strange_any 1 n s w _ rfl hs
  have hs' : s.size ≤ 1048576 := hs
  clear hs
  have HF : Hid (valE ⟨1, n, s⟩ = if n < -1000000 ∨ 1000000 < n then 1 else if s.data.toList.any strC = true ∨ s.toList.isEmpty = false then 2 else 0) := by
    unfold valE valLo valHi Hid; simp
  generalize s.data.toList.any strC = B at hcall HF
  by_cases h1 : n < -1000000
  · have HE : Hid (errV (valE ⟨1, n, s⟩) = .iface 46 (.int .i64 1)) := by rw [HF.out]; rw [if_pos (Or.inl h1)]; rfl
    clear HF
    go_enter Tryd.func28, Tryd.ntmps28
    go_wp2_with (go_at_call 10; refine hcall.mono ?_; rintro e w' ⟨rfl, hb, c0, c1, c2⟩)
    go_ret
    exact ⟨by rw [HE.out]; rfl, hb⟩
  · by_cases h2 : 1000000 < n
    · have HE : Hid (errV (valE ⟨1, n, s⟩) = .iface 46 (.int .i64 1)) := by rw [HF.out]; rw [if_pos (Or.inr h2)]; rfl
      clear HF
      go_enter Tryd.func28, Tryd.ntmps28
      go_wp2_with (go_at_call 10; refine hcall.mono ?_; rintro e w' ⟨rfl, hb, c0, c1, c2⟩)
      go_ret
      exact ⟨by rw [HE.out]; rfl, hb⟩
    · have h1' : -1000000 ≤ n := by omega
      have h2' : n ≤ 1000000 := by omega
      have h1b : decide (n < -1000000) = false := by simp; omega
      have h2b : decide (1000000 < n) = false := by simp; omega
      cases B with
      | true =>
        have HE : Hid (errV (valE ⟨1, n, s⟩) = .iface 46 (.int .i64 2)) := by rw [HF.out]; rw [if_neg (by omega), if_pos (Or.inl rfl)]; rfl
        clear HF
        go_enter Tryd.func28, Tryd.ntmps28
        go_wp2_with (go_at_call 10; refine hcall.mono ?_; rintro e w' ⟨rfl, hb, c0, c1, c2⟩)
        go_ret
        exact ⟨by rw [HE.out]; rfl, hb⟩
      | false =>
        cases h0 : s.toList.isEmpty with
        | true =>
          have HE : Hid (errV (valE ⟨1, n, s⟩) = .nilIface) := by rw [HF.out]; rw [h0, if_neg (by omega), if_neg (by simp)]; rfl
          clear HF
          go_enter Tryd.func28, Tryd.ntmps28
          go_wp2_with (go_at_call 10; refine hcall.mono ?_; rintro e w' ⟨rfl, hb, c0, c1, c2⟩)
          go_ret
          exact ⟨by rw [HE.out]; rfl, hb⟩
        | false =>
          have HE : Hid (errV (valE ⟨1, n, s⟩) = .iface 46 (.int .i64 2)) := by rw [HF.out]; rw [h0, if_neg (by omega), if_pos (by simp)]; rfl
          clear HF
          go_enter Tryd.func28, Tryd.ntmps28
          go_wp2_with (go_at_call 10; refine hcall.mono ?_; rintro e w' ⟨rfl, hb, c0, c1, c2⟩)
          go_ret
          exact ⟨by rw [HE.out]; rfl, hb⟩
set_option maxHeartbeats 1000000 in
theorem check_bool (hs : Sm s) :
    Calls Tryd.prog 28 #[.agg #[.int .i64 2, .int .i64 n, .string s]] w fun e w' => e = .returned (errV (valE ⟨2, n, s⟩)) ∧ Below w.heap.size w w' := by
  have hcv := fun wx => Lib.run_convert_string_bytes (P := Tryd.prog) wx 9 44 5 s Tryd.underlying9 Tryd.underlying44 Tryd.underlying5
  have hcall := strange_any 2 n s w _ rfl hs
  have hs' : s.size ≤ 1048576 := hs
  clear hs
  have HF : Hid (valE ⟨2, n, s⟩ = if n < 0 ∨ 1 < n then 1 else if s.data.toList.any strC = true ∨ s.toList.isEmpty = false then 2 else 0) := by
    unfold valE valLo valHi Hid; simp
  generalize s.data.toList.any strC = B at hcall HF
  by_cases h1 : n < 0
  · have HE : Hid (errV (valE ⟨2, n, s⟩) = .iface 46 (.int .i64 1)) := by rw [HF.out]; rw [if_pos (Or.inl h1)]; rfl
    clear HF
    go_enter Tryd.func28, Tryd.ntmps28
    go_wp2_with (go_at_call 10; refine hcall.mono ?_; rintro e w' ⟨rfl, hb, c0, c1, c2⟩)
    go_ret
    exact ⟨by rw [HE.out]; rfl, hb⟩
  · by_cases h2 : 1 < n
    · have HE : Hid (errV (valE ⟨2, n, s⟩) = .iface 46 (.int .i64 1)) := by rw [HF.out]; rw [if_pos (Or.inr h2)]; rfl
      clear HF
      go_enter Tryd.func28, Tryd.ntmps28
      go_wp2_with (go_at_call 10; refine hcall.mono ?_; rintro e w' ⟨rfl, hb, c0, c1, c2⟩)
      go_ret
      exact ⟨by rw [HE.out]; rfl, hb⟩
    · have h1' : 0 ≤ n := by omega
      have h2' : n ≤ 1 := by omega
      have h1b : decide (n < 0) = false := by simp; omega
      have h2b : decide (1 < n) = false := by simp; omega
      cases B with
      | true =>
        have HE : Hid (errV (valE ⟨2, n, s⟩) = .iface 46 (.int .i64 2)) := by rw [HF.out]; rw [if_neg (by omega), if_pos (Or.inl rfl)]; rfl
        clear HF
        go_enter Tryd.func28, Tryd.ntmps28
        go_wp2_with (go_at_call 10; refine hcall.mono ?_; rintro e w' ⟨rfl, hb, c0, c1, c2⟩)
        go_ret
        exact ⟨by rw [HE.out]; rfl, hb⟩
      | false =>
        cases h0 : s.toList.isEmpty with
        | true =>
          have HE : Hid (errV (valE ⟨2, n, s⟩) = .nilIface) := by rw [HF.out]; rw [h0, if_neg (by omega), if_neg (by simp)]; rfl
          clear HF
          go_enter Tryd.func28, Tryd.ntmps28
          go_wp2_with (go_at_call 10; refine hcall.mono ?_; rintro e w' ⟨rfl, hb, c0, c1, c2⟩)
          go_ret
          exact ⟨by rw [HE.out]; rfl, hb⟩
        | false =>
          have HE : Hid (errV (valE ⟨2, n, s⟩) = .iface 46 (.int .i64 2)) := by rw [HF.out]; rw [h0, if_neg (by omega), if_pos (by simp)]; rfl
          clear HF
          go_enter Tryd.func28, Tryd.ntmps28
          go_wp2_with (go_at_call 10; refine hcall.mono ?_; rintro e w' ⟨rfl, hb, c0, c1, c2⟩)
          go_ret
          exact ⟨by rw [HE.out]; rfl, hb⟩
set_option maxHeartbeats 1000000 in
theorem check_text (hs : Sm s) :
    Calls Tryd.prog 28 #[.agg #[.int .i64 3, .int .i64 n, .string s]] w fun e w' => e = .returned (errV (valE ⟨3, n, s⟩)) ∧ Below w.heap.size w w' := by
  have hcv := fun wx => Lib.run_convert_string_bytes (P := Tryd.prog) wx 9 44 5 s Tryd.underlying9 Tryd.underlying44 Tryd.underlying5
  have hcall := strange_any 3 n s w _ rfl hs
  have hs' : s.size ≤ 1048576 := hs
  clear hs
  have HF : Hid (valE ⟨3, n, s⟩ = if n < 0 ∨ 0 < n then 1 else if 20 < s.size then 4 else if s.data.toList.any strC = true then 2 else 0) := by
    unfold valE valLo valHi Hid; simp
  generalize s.data.toList.any strC = B at hcall HF
  by_cases h1 : n < 0
  · have HE : Hid (errV (valE ⟨3, n, s⟩) = .iface 46 (.int .i64 1)) := by rw [HF.out]; rw [if_pos (Or.inl h1)]; rfl
    clear HF
    go_enter Tryd.func28, Tryd.ntmps28
    go_wp2_with (go_at_call 10; refine hcall.mono ?_; rintro e w' ⟨rfl, hb, c0, c1, c2⟩)
    go_ret
    exact ⟨by rw [HE.out]; rfl, hb⟩
  · by_cases h2 : 0 < n
    · have HE : Hid (errV (valE ⟨3, n, s⟩) = .iface 46 (.int .i64 1)) := by rw [HF.out]; rw [if_pos (Or.inr h2)]; rfl
      clear HF
      go_enter Tryd.func28, Tryd.ntmps28
      go_wp2_with (go_at_call 10; refine hcall.mono ?_; rintro e w' ⟨rfl, hb, c0, c1, c2⟩)
      go_ret
      exact ⟨by rw [HE.out]; rfl, hb⟩
    · have h1' : 0 ≤ n := by omega
      have h2' : n ≤ 0 := by omega
      have h1b : decide (n < 0) = false := by simp; omega
      have h2b : decide (0 < n) = false := by simp; omega
      by_cases h3 : 20 < s.size
      · have h3' : (20 : Int) < (s.size : Int) := by omega
        have HE : Hid (errV (valE ⟨3, n, s⟩) = .iface 46 (.int .i64 4)) := by rw [HF.out]; rw [if_neg (by omega), if_pos h3]; rfl
        clear HF
        go_enter Tryd.func28, Tryd.ntmps28
        go_wp2_with (go_at_call 10; refine hcall.mono ?_; rintro e w' ⟨rfl, hb, c0, c1, c2⟩)
        go_ret
        exact ⟨by rw [HE.out]; rfl, hb⟩
      · have h3' : decide ((20 : Int) < (s.size : Int)) = false := by simp; omega
        have h3'' : (s.size : Int) ≤ 20 := by omega
        cases B with
        | true =>
          have HE : Hid (errV (valE ⟨3, n, s⟩) = .iface 46 (.int .i64 2)) := by rw [HF.out]; rw [if_neg (by omega), if_neg h3]; rfl
          clear HF
          go_enter Tryd.func28, Tryd.ntmps28
          go_wp2_with (go_at_call 10; refine hcall.mono ?_; rintro e w' ⟨rfl, hb, c0, c1, c2⟩)
          go_ret
          exact ⟨by rw [HE.out]; rfl, hb⟩
        | false =>
          have HE : Hid (errV (valE ⟨3, n, s⟩) = .nilIface) := by rw [HF.out]; rw [if_neg (by omega), if_neg h3]; rfl
          clear HF
          go_enter Tryd.func28, Tryd.ntmps28
          go_wp2_with (go_at_call 10; refine hcall.mono ?_; rintro e w' ⟨rfl, hb, c0, c1, c2⟩)
          go_ret
          exact ⟨by rw [HE.out]; rfl, hb⟩
end

theorem check_any (v : Val) (hv : v.ok) (w : World) :
    Calls Tryd.prog 28 #[.agg #[.int .i64 v.ty, .int .i64 v.n, .string v.s]] w fun e w' => e = .returned (errV (valE v)) ∧ Below w.heap.size w w' := by
  obtain ⟨ty, n, s⟩ := v
  obtain ⟨_, _, hs⟩ := hv
  show Calls Tryd.prog 28 #[.agg #[.int .i64 ty, .int .i64 n, .string s]] w _
  by_cases h1 : ty = 1
  · subst h1; exact check_int n s w hs
  by_cases h2 : ty = 2
  · subst h2; exact check_bool n s w hs
  by_cases h3 : ty = 3
  · subst h3; exact check_text n s w hs
  exact check_bad ty n s w (by rintro (h | h | h) <;> contradiction)
end Go.Proofs.YtakidgndipnciaaDoor
