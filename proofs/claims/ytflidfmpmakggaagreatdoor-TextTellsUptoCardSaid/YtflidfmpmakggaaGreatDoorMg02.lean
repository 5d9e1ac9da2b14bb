/- Parts: ValA, ValB, Own. -/
import Derived.Test.YtflidfmpmakggaaGreatDoorRows
import Derived.Test.YtflidfmpmakggaaGreatDoorMg01
import Derived.Deep.LoopGhost
import Derived.Shelf.GgClosure.Gives
import Derived.Lib.ConvBytes
import Derived.Maps.AppendAt
/- Contracts: what value.Name, value.Check, record.prop and record.Check of the program answer, for every input that is not too long; plain functions on bytes beside them. -/
namespace Go.Proofs.YtflidfmpmakggaaGreatDoor
open Go.RowKit

/-- The place of the first that meets p; -1: none does. -/
def idxI {D : Type} (p : D → Bool) (l : List D) : Int := match l.findIdx? p with | some i => i | none => -1
theorem idxI_hit {D : Type} {p : D → Bool} {l : List D} {k : Nat} {d : D} (h1 : ∀ j x, j < k → l[j]? = some x → p x = false) (h2 : l[k]? = some d) (h3 : p d = true) : idxI p l = k := by
  unfold idxI
  have : l.findIdx? p = some k := by
    rw [List.findIdx?_eq_some_iff_getElem]
    obtain ⟨hk, rfl⟩ := List.getElem?_eq_some_iff.1 h2
    exact ⟨hk, h3, fun j hj => by simp [h1 j _ hj (List.getElem?_eq_getElem (by omega))]⟩
  rw [this]
theorem idxI_miss {D : Type} {p : D → Bool} {l : List D} (h1 : ∀ j x, j < l.length → l[j]? = some x → p x = false) : idxI p l = -1 := by
  unfold idxI
  have : l.findIdx? p = none := by
    rw [List.findIdx?_eq_none_iff]
    intro x hx
    obtain ⟨j, hj, rfl⟩ := List.getElem_of_mem hx
    exact h1 j _ hj (List.getElem?_eq_getElem hj)
  rw [this]
theorem idxI_any {D : Type} (p : D → Bool) (l : List D) : decide ((0 : Int) ≤ idxI p l) = l.any p := by
  unfold idxI
  cases h : l.findIdx? p with
  | none =>
    rw [List.findIdx?_eq_none_iff] at h
    have : l.any p = false := by rw [List.any_eq_false]; intro x hx; simp [h x hx]
    rw [this]; rfl
  | some i =>
    obtain ⟨hi, hp, _⟩ := List.findIdx?_eq_some_iff_getElem.1 h
    have : l.any p = true := List.any_eq_true.2 ⟨_, List.getElem_mem hi, hp⟩
    rw [this]; simp
theorem miss_step {D : Type} {p : D → Bool} {l : List D} {k : Nat} {d : D} (h1 : ∀ j x, j < k → l[j]? = some x → p x = false) (h2 : l[k]? = some d) (h3 : p d = false) : ∀ j x, j < k + 1 → l[j]? = some x → p x = false := by
  intro j x hj hx
  by_cases e : j = k
  · subst e
    have := h2.symm.trans hx
    cases this
    exact h3
  · exact h1 j x (by omega) hx

/-- What is asked of a function value: on each element, in every later world, it answers p and leaves what there was. -/
def PredB {D : Type} (P : Program) (g : Nat) (caps : Array Value) (V : World → D → Value → Prop) (p : D → Bool) (w : World) : Prop :=
  ∀ x u wx, Below w.heap.size w wx → V wx x u → Calls P g (#[u] ++ caps) wx (fun e w' => e = .returned (.bool (p x)) ∧ Below wx.heap.size wx w')

set_option maxHeartbeats 400000 in
theorem idx_byte (g : Nat) (caps : Array Value) (eg : ∀ args w, (callFunc g args).run Tryz.prog w = .ok (.enter g args) w) (p : UInt8 → Bool) (l : List UInt8) (v : Value) (w : World) (hv : Sl byteL w v l)
    (hp : PredB Tryz.prog g caps (fun _ x u => u = .int .u8 x.toNat) p w) :
    Calls Tryz.prog 215 #[v, .func (.func g) #[] caps] w fun e w' => e = .returned (.int .i64 (idxI p l)) ∧ Below w.heap.size w w' := by
  obtain ⟨A, c, rfl, hlc, hcm⟩ := hv.form
  unfold maxLen at hcm
  go_enter Tryz.func215, Tryz.ntmps215
  go_wp2_with fail
  go_loopw [8] (fun i wr => ∃ k : Nat, k ≤ l.length ∧ i = .int .i64 k ∧ Below w.heap.size w wr ∧ Hid (∀ j x, j < k → l[j]? = some x → p x = false)) (fun i _ => l.length - (intOf i).toNat)
  case atStart => exact ⟨0, Nat.zero_le _, rfl, Below.refl _ _, fun j x hj => absurd hj (Nat.not_lt_zero _)⟩
  case round =>
    obtain ⟨k, hk, rfl, hb, HA⟩ := hrel
    by_cases hlt : k < l.length
    · obtain ⟨d, hd⟩ : ∃ d, l[k]? = some d := ⟨_, List.getElem?_eq_getElem hlt⟩
      obtain ⟨b, o, rfl, hcell⟩ := byte_at (hv.below hb) hd
      have HD : Hid (l[k]? = some d) := hd
      clear hd
      have hcall := hp d _ wr hb rfl
      clear hp hv
      cases hq : p d with
      | true =>
        rw [hq] at hcall
        have HQ : Hid (p d = true) := hq
        clear hq
        go_wp2_with (go_at_fn g; refine hcall.mono ?_; rintro e w' ⟨rfl, hb2⟩)
        go_ret
        exact ⟨ret_int (idxI_hit HA.out HD.out HQ.out).symm, hb.trans (hb2.mono hb.size)⟩
      | false =>
        rw [hq] at hcall
        have HQ : Hid (p d = false) := hq
        clear hq
        go_wp2_with (go_at_fn g; refine hcall.mono ?_; rintro e w' ⟨rfl, hb2⟩)
        go_roundw
        case rel => exact ⟨k + 1, by omega, by go_num, hb.trans (hb2.mono hb.size), miss_step HA.out HD.out HQ.out⟩
        case measure => simp [intOf]; omega
    · have hkl : k = l.length := by omega
      subst hkl
      go_wp2_with fail
      go_ret
      exact ⟨ret_int (idxI_miss HA.out).symm, hb⟩

theorem has_byte (g : Nat) (caps : Array Value) (eg : ∀ args w, (callFunc g args).run Tryz.prog w = .ok (.enter g args) w) (p : UInt8 → Bool) (l : List UInt8) (v : Value) (w : World) (hv : Sl byteL w v l)
    (hp : PredB Tryz.prog g caps (fun _ x u => u = .int .u8 x.toNat) p w) :
    Calls Tryz.prog 166 #[v, .func (.func g) #[] caps] w fun e w' => e = .returned (.bool (l.any p)) ∧ Below w.heap.size w w' := by
  have h1 := idx_byte g caps eg p l v w hv hp
  have h2 := idxI_any p l
  have H2 := Lib.hid h2
  clear h2 hv hp eg
  go_enter Tryz.func166, Tryz.ntmps166
  go_wp2_with (go_at_call 215; refine h1.mono ?_; rintro e w' ⟨rfl, hb⟩)
  go_ret
  exact ⟨ret_bool H2.out, hb⟩

/-- '[]byte(s)': a new row that reads as the text's bytes. -/
theorem bytes_sl (w : World) (s : ByteArray) (hs : Sm s) : Sl byteL (Lib.bytesWorld w 5 s) (.slice (some ⟨w.heap.size, 0, none⟩) s.size (grownCap w s.size 0 5)) s.data.toList ∧ Below w.heap.size w (Lib.bytesWorld w 5 s) := by
  have e : s.data.toList.length = s.size := by rw [Array.length_toList]; rfl
  refine ⟨⟨some ⟨w.heap.size, 0, none⟩, grownCap w s.size 0 5, by rw [e], by rw [e]; exact grownCap_ge _ _ _ _, ?_, ?_⟩, ⟨rfl, rfl, rfl, by rw [Lib.bytesWorld_size]; omega, fun k hk => Lib.bytesWorld_at_old w 5 s k hk⟩⟩
  · exact grownCap_le_maxLen _ _ _ _ (by unfold Sm at hs; unfold maxLen; omega)
  · intro i d hi
    refine ⟨_, _, _, rfl, ⟨rfl, trivial⟩, fun j u hj => ?_⟩
    have hlt : i < s.size := by rw [← e]; exact (List.getElem?_eq_some_iff.1 hi).1
    match j, hj with
    | 0, hj =>
      simp at hj
      subst hj
      have := Lib.bytesWorld_cell w 5 s i hlt
      simpa [byteL, flatL, List.getD, hi] using this

/-! ### value.Name -/
def nameC (c : UInt8) : Bool := decide ((c.toNat : Int) < 97) || decide (122 < (c.toNat : Int))
def nameE (s : ByteArray) : Int := if s.toList.isEmpty then 2 else if 8 < s.size then 2 else if s.data.toList.any nameC then 2 else 0
theorem name1 (c : UInt8) (w : World) :
    Calls Tryz.prog 167 #[.int .u8 c.toNat] w fun e w' => e = .returned (.bool (nameC c)) ∧ w = w' := by
  unfold nameC
  go_enter Tryz.func167, Tryz.ntmps167
  go_wp2
  all_goals go_ret
  all_goals exact ⟨rfl, rfl⟩
theorem name_any (s : ByteArray) (w : World) (hs : Sm s) :
    Calls Tryz.prog 114 #[.string s] w fun e w' => e = .returned (errV (nameE s)) ∧ Below w.heap.size w w' := by
  have hcv := fun wx => Lib.run_convert_string_bytes (P := Tryz.prog) wx 9 108 5 s Tryz.underlying9 Tryz.underlying108 Tryz.underlying5
  obtain ⟨hsl, hb⟩ := bytes_sl w s hs
  have hcall := has_byte 167 #[] (by intro args w; kernel_rfl) nameC s.data.toList _ _ hsl (fun x u wx _ hu => by subst hu; exact (name1 x wx).mono fun e w' ⟨h1, h2⟩ => ⟨h1, h2 ▸ Below.refl _ _⟩)
  have HF : Hid (nameE s = if s.toList.isEmpty then 2 else if 8 < s.size then 2 else if s.data.toList.any nameC then 2 else 0) := rfl
  clear hsl
  have hs' : s.size ≤ 1048576 := hs
  clear hs
  by_cases h0 : s.toList.isEmpty = true
  · have HE : Hid (errV (nameE s) = .iface 115 (.int .i64 2)) := by rw [HF.out, if_pos h0]; rfl
    clear hcall
    go_enter Tryz.func114, Tryz.ntmps114
    go_wp2_with fail
    go_ret
    exact ⟨by rw [HE.out]; rfl, Below.refl _ _⟩
  · have h0' : s.toList.isEmpty = false := by simpa using h0
    by_cases h8 : 8 < s.size
    · have HE : Hid (errV (nameE s) = .iface 115 (.int .i64 2)) := by rw [HF.out, if_neg h0, if_pos h8]; rfl
      have h8' : (8 : Int) < (s.size : Int) := by omega
      clear hcall h0
      go_enter Tryz.func114, Tryz.ntmps114
      go_wp2_with fail
      go_ret
      exact ⟨by rw [HE.out]; rfl, Below.refl _ _⟩
    · have h8' : decide ((8 : Int) < (s.size : Int)) = false := by simp; omega
      have h8'' : (s.size : Int) ≤ 8 := by omega
      clear h0
      cases hq : s.data.toList.any nameC with
      | true =>
        have HE : Hid (errV (nameE s) = .iface 115 (.int .i64 2)) := by rw [HF.out, h0', if_neg (by simp), if_neg h8, hq]; rfl
        rw [hq] at hcall
        clear hq
        go_enter Tryz.func114, Tryz.ntmps114
        go_wp2_with (go_at_call 166; refine hcall.mono ?_; rintro e w' ⟨rfl, hb2⟩)
        go_ret
        exact ⟨by rw [HE.out]; rfl, hb.trans (hb2.mono hb.size)⟩
      | false =>
        have HE : Hid (errV (nameE s) = .nilIface) := by rw [HF.out, h0', if_neg (by simp), if_neg h8, hq]; rfl
        rw [hq] at hcall
        clear hq
        go_enter Tryz.func114, Tryz.ntmps114
        go_wp2_with (go_at_call 166; refine hcall.mono ?_; rintro e w' ⟨rfl, hb2⟩)
        go_ret
        exact ⟨by rw [HE.out]; rfl, hb.trans (hb2.mono hb.size)⟩

def strC (c : UInt8) : Bool := decide ((c.toNat : Int) < 32) || decide (126 < (c.toNat : Int))
theorem check1 (c : UInt8) (w : World) :
    Calls Tryz.prog 193 #[.int .u8 c.toNat] w fun e w' => e = .returned (.bool (strC c)) ∧ w = w' := by
  unfold strC
  go_enter Tryz.func193, Tryz.ntmps193
  go_wp2
  all_goals go_ret
  all_goals exact ⟨rfl, rfl⟩

/-- The least and the greatest number of a type. -/
def valLo (ty : Int) : Int := if ty = 1 then -1000000 else 0
def valHi (ty : Int) : Int := if ty = 1 then 1000000 else if ty = 2 then 1 else 0
/-- The fault of a value. -/
def valE (v : Val) : Int :=
  if v.ty = 1 ∨ v.ty = 2 ∨ v.ty = 3 then
    if v.n < valLo v.ty ∨ valHi v.ty < v.n then 1
    else if v.ty = 3 ∧ 20 < v.s.size then 4
    else if v.s.data.toList.any strC = true ∨ (v.ty ≠ 3 ∧ v.s.toList.isEmpty = false) then 2
    else 0
  else 8

/-- The call inside Check: strange bytes. -/
theorem strange_any (ty n : Int) (s : ByteArray) (w W0 : World) (hW : W0 = w.alloc (.cells #[.int .i64 ty, .int .i64 n, .string s] 70)) (hs : Sm s) :
    Calls Tryz.prog 166 #[.slice (some ⟨w.heap.size + 1, 0, none⟩) s.size (grownCap W0 s.size 0 5), .func (.func 193) #[] #[]] (Lib.bytesWorld W0 5 s)
      fun e w' => e = .returned (.bool (s.data.toList.any strC)) ∧ Below w.heap.size w w' ∧ w'.cell? ⟨w.heap.size, 0, none⟩ = some (.int .i64 ty) ∧ w'.cell? ⟨w.heap.size, 1, none⟩ = some (.int .i64 n) ∧
        w'.cell? ⟨w.heap.size, 2, none⟩ = some (.string s) := by
  obtain ⟨hsl, hb⟩ := bytes_sl W0 s hs
  have hsz : W0.heap.size = w.heap.size + 1 := by subst hW; simp
  rw [hsz] at hsl
  refine (has_byte 193 #[] (by intro args w; kernel_rfl) strC s.data.toList _ _ hsl (fun x u wx _ hu => by subst hu; exact (check1 x wx).mono fun e w' ⟨h1, h2⟩ => ⟨h1, h2 ▸ Below.refl _ _⟩)).mono ?_
  rintro e w' ⟨he, hb2⟩
  have hb3 : Below W0.heap.size W0 w' := hb.trans (hb2.mono hb.size)
  refine ⟨he, ?_, cell_below hb3 ?_, cell_below hb3 ?_, cell_below hb3 ?_⟩
  · refine Below.trans (b := W0) (by subst hW; exact (Below.refl _ _).alloc (Nat.le_refl _) _) (hb3.mono (by subst hW; simp))
  all_goals subst hW; rw [World.cell?_alloc_at _ _ _ _ rfl]; rfl

section
variable (ty n : Int) (s : ByteArray) (w : World)
theorem check_bad (h : ¬ (ty = 1 ∨ ty = 2 ∨ ty = 3)) :
    Calls Tryz.prog 149 #[.agg #[.int .i64 ty, .int .i64 n, .string s]] w fun e w' => e = .returned (errV (valE ⟨ty, n, s⟩)) ∧ Below w.heap.size w w' := by
  have HE : Hid (errV (valE ⟨ty, n, s⟩) = .iface 115 (.int .i64 8)) := by unfold valE; rw [if_neg h]; rfl
  have h1 : (ty == 1) = false := by simp; omega
  have h2 : (ty == 2) = false := by simp; omega
  have h3 : (ty == 3) = false := by simp; omega
  clear h
  go_enter Tryz.func149, Tryz.ntmps149
  go_wp2_with fail
  go_ret
  exact ⟨by rw [HE.out]; rfl, (Below.refl _ _).alloc (Nat.le_refl _) _⟩
set_option maxHeartbeats 1000000 in
theorem check_int (hs : Sm s) :
    Calls Tryz.prog 149 #[.agg #[.int .i64 1, .int .i64 n, .string s]] w fun e w' => e = .returned (errV (valE ⟨1, n, s⟩)) ∧ Below w.heap.size w w' := by
  have hcv := fun wx => Lib.run_convert_string_bytes (P := Tryz.prog) wx 9 108 5 s Tryz.underlying9 Tryz.underlying108 Tryz.underlying5
  have hcall := strange_any 1 n s w _ rfl hs
  have hs' : s.size ≤ 1048576 := hs
  clear hs
  have HF : Hid (valE ⟨1, n, s⟩ = if n < -1000000 ∨ 1000000 < n then 1 else if s.data.toList.any strC = true ∨ s.toList.isEmpty = false then 2 else 0) := by
    unfold valE valLo valHi Hid; simp
  generalize s.data.toList.any strC = B at hcall HF
  by_cases h1 : n < -1000000
  · have HE : Hid (errV (valE ⟨1, n, s⟩) = .iface 115 (.int .i64 1)) := by rw [HF.out]; rw [if_pos (Or.inl h1)]; rfl
    clear HF
    go_enter Tryz.func149, Tryz.ntmps149
    go_wp2_with (go_at_call 166; refine hcall.mono ?_; rintro e w' ⟨rfl, hb, c0, c1, c2⟩)
    go_ret
    exact ⟨by rw [HE.out]; rfl, hb⟩
  · by_cases h2 : 1000000 < n
    · have HE : Hid (errV (valE ⟨1, n, s⟩) = .iface 115 (.int .i64 1)) := by rw [HF.out]; rw [if_pos (Or.inr h2)]; rfl
      clear HF
      go_enter Tryz.func149, Tryz.ntmps149
      go_wp2_with (go_at_call 166; refine hcall.mono ?_; rintro e w' ⟨rfl, hb, c0, c1, c2⟩)
      go_ret
      exact ⟨by rw [HE.out]; rfl, hb⟩
    · have h1' : -1000000 ≤ n := by omega
      have h2' : n ≤ 1000000 := by omega
      have h1b : decide (n < -1000000) = false := by simp; omega
      have h2b : decide (1000000 < n) = false := by simp; omega
      cases B with
      | true =>
        have HE : Hid (errV (valE ⟨1, n, s⟩) = .iface 115 (.int .i64 2)) := by rw [HF.out]; rw [if_neg (by omega), if_pos (Or.inl rfl)]; rfl
        clear HF
        go_enter Tryz.func149, Tryz.ntmps149
        go_wp2_with (go_at_call 166; refine hcall.mono ?_; rintro e w' ⟨rfl, hb, c0, c1, c2⟩)
        go_ret
        exact ⟨by rw [HE.out]; rfl, hb⟩
      | false =>
        cases h0 : s.toList.isEmpty with
        | true =>
          have HE : Hid (errV (valE ⟨1, n, s⟩) = .nilIface) := by rw [HF.out]; rw [h0, if_neg (by omega), if_neg (by simp)]; rfl
          clear HF
          go_enter Tryz.func149, Tryz.ntmps149
          go_wp2_with (go_at_call 166; refine hcall.mono ?_; rintro e w' ⟨rfl, hb, c0, c1, c2⟩)
          go_ret
          exact ⟨by rw [HE.out]; rfl, hb⟩
        | false =>
          have HE : Hid (errV (valE ⟨1, n, s⟩) = .iface 115 (.int .i64 2)) := by rw [HF.out]; rw [h0, if_neg (by omega), if_pos (by simp)]; rfl
          clear HF
          go_enter Tryz.func149, Tryz.ntmps149
          go_wp2_with (go_at_call 166; refine hcall.mono ?_; rintro e w' ⟨rfl, hb, c0, c1, c2⟩)
          go_ret
          exact ⟨by rw [HE.out]; rfl, hb⟩
set_option maxHeartbeats 1000000 in
theorem check_bool (hs : Sm s) :
    Calls Tryz.prog 149 #[.agg #[.int .i64 2, .int .i64 n, .string s]] w fun e w' => e = .returned (errV (valE ⟨2, n, s⟩)) ∧ Below w.heap.size w w' := by
  have hcv := fun wx => Lib.run_convert_string_bytes (P := Tryz.prog) wx 9 108 5 s Tryz.underlying9 Tryz.underlying108 Tryz.underlying5
  have hcall := strange_any 2 n s w _ rfl hs
  have hs' : s.size ≤ 1048576 := hs
  clear hs
  have HF : Hid (valE ⟨2, n, s⟩ = if n < 0 ∨ 1 < n then 1 else if s.data.toList.any strC = true ∨ s.toList.isEmpty = false then 2 else 0) := by
    unfold valE valLo valHi Hid; simp
  generalize s.data.toList.any strC = B at hcall HF
  by_cases h1 : n < 0
  · have HE : Hid (errV (valE ⟨2, n, s⟩) = .iface 115 (.int .i64 1)) := by rw [HF.out]; rw [if_pos (Or.inl h1)]; rfl
    clear HF
    go_enter Tryz.func149, Tryz.ntmps149
    go_wp2_with (go_at_call 166; refine hcall.mono ?_; rintro e w' ⟨rfl, hb, c0, c1, c2⟩)
    go_ret
    exact ⟨by rw [HE.out]; rfl, hb⟩
  · by_cases h2 : 1 < n
    · have HE : Hid (errV (valE ⟨2, n, s⟩) = .iface 115 (.int .i64 1)) := by rw [HF.out]; rw [if_pos (Or.inr h2)]; rfl
      clear HF
      go_enter Tryz.func149, Tryz.ntmps149
      go_wp2_with (go_at_call 166; refine hcall.mono ?_; rintro e w' ⟨rfl, hb, c0, c1, c2⟩)
      go_ret
      exact ⟨by rw [HE.out]; rfl, hb⟩
    · have h1' : 0 ≤ n := by omega
      have h2' : n ≤ 1 := by omega
      have h1b : decide (n < 0) = false := by simp; omega
      have h2b : decide (1 < n) = false := by simp; omega
      cases B with
      | true =>
        have HE : Hid (errV (valE ⟨2, n, s⟩) = .iface 115 (.int .i64 2)) := by rw [HF.out]; rw [if_neg (by omega), if_pos (Or.inl rfl)]; rfl
        clear HF
        go_enter Tryz.func149, Tryz.ntmps149
        go_wp2_with (go_at_call 166; refine hcall.mono ?_; rintro e w' ⟨rfl, hb, c0, c1, c2⟩)
        go_ret
        exact ⟨by rw [HE.out]; rfl, hb⟩
      | false =>
        cases h0 : s.toList.isEmpty with
        | true =>
          have HE : Hid (errV (valE ⟨2, n, s⟩) = .nilIface) := by rw [HF.out]; rw [h0, if_neg (by omega), if_neg (by simp)]; rfl
          clear HF
          go_enter Tryz.func149, Tryz.ntmps149
          go_wp2_with (go_at_call 166; refine hcall.mono ?_; rintro e w' ⟨rfl, hb, c0, c1, c2⟩)
          go_ret
          exact ⟨by rw [HE.out]; rfl, hb⟩
        | false =>
          have HE : Hid (errV (valE ⟨2, n, s⟩) = .iface 115 (.int .i64 2)) := by rw [HF.out]; rw [h0, if_neg (by omega), if_pos (by simp)]; rfl
          clear HF
          go_enter Tryz.func149, Tryz.ntmps149
          go_wp2_with (go_at_call 166; refine hcall.mono ?_; rintro e w' ⟨rfl, hb, c0, c1, c2⟩)
          go_ret
          exact ⟨by rw [HE.out]; rfl, hb⟩
set_option maxHeartbeats 1000000 in
theorem check_text (hs : Sm s) :
    Calls Tryz.prog 149 #[.agg #[.int .i64 3, .int .i64 n, .string s]] w fun e w' => e = .returned (errV (valE ⟨3, n, s⟩)) ∧ Below w.heap.size w w' := by
  have hcv := fun wx => Lib.run_convert_string_bytes (P := Tryz.prog) wx 9 108 5 s Tryz.underlying9 Tryz.underlying108 Tryz.underlying5
  have hcall := strange_any 3 n s w _ rfl hs
  have hs' : s.size ≤ 1048576 := hs
  clear hs
  have HF : Hid (valE ⟨3, n, s⟩ = if n < 0 ∨ 0 < n then 1 else if 20 < s.size then 4 else if s.data.toList.any strC = true then 2 else 0) := by
    unfold valE valLo valHi Hid; simp
  generalize s.data.toList.any strC = B at hcall HF
  by_cases h1 : n < 0
  · have HE : Hid (errV (valE ⟨3, n, s⟩) = .iface 115 (.int .i64 1)) := by rw [HF.out]; rw [if_pos (Or.inl h1)]; rfl
    clear HF
    go_enter Tryz.func149, Tryz.ntmps149
    go_wp2_with (go_at_call 166; refine hcall.mono ?_; rintro e w' ⟨rfl, hb, c0, c1, c2⟩)
    go_ret
    exact ⟨by rw [HE.out]; rfl, hb⟩
  · by_cases h2 : 0 < n
    · have HE : Hid (errV (valE ⟨3, n, s⟩) = .iface 115 (.int .i64 1)) := by rw [HF.out]; rw [if_pos (Or.inr h2)]; rfl
      clear HF
      go_enter Tryz.func149, Tryz.ntmps149
      go_wp2_with (go_at_call 166; refine hcall.mono ?_; rintro e w' ⟨rfl, hb, c0, c1, c2⟩)
      go_ret
      exact ⟨by rw [HE.out]; rfl, hb⟩
    · have h1' : 0 ≤ n := by omega
      have h2' : n ≤ 0 := by omega
      have h1b : decide (n < 0) = false := by simp; omega
      have h2b : decide (0 < n) = false := by simp; omega
      by_cases h3 : 20 < s.size
      · have h3' : (20 : Int) < (s.size : Int) := by omega
        have HE : Hid (errV (valE ⟨3, n, s⟩) = .iface 115 (.int .i64 4)) := by rw [HF.out]; rw [if_neg (by omega), if_pos h3]; rfl
        clear HF
        go_enter Tryz.func149, Tryz.ntmps149
        go_wp2_with (go_at_call 166; refine hcall.mono ?_; rintro e w' ⟨rfl, hb, c0, c1, c2⟩)
        go_ret
        exact ⟨by rw [HE.out]; rfl, hb⟩
      · have h3' : decide ((20 : Int) < (s.size : Int)) = false := by simp; omega
        have h3'' : (s.size : Int) ≤ 20 := by omega
        cases B with
        | true =>
          have HE : Hid (errV (valE ⟨3, n, s⟩) = .iface 115 (.int .i64 2)) := by rw [HF.out]; rw [if_neg (by omega), if_neg h3]; rfl
          clear HF
          go_enter Tryz.func149, Tryz.ntmps149
          go_wp2_with (go_at_call 166; refine hcall.mono ?_; rintro e w' ⟨rfl, hb, c0, c1, c2⟩)
          go_ret
          exact ⟨by rw [HE.out]; rfl, hb⟩
        | false =>
          have HE : Hid (errV (valE ⟨3, n, s⟩) = .nilIface) := by rw [HF.out]; rw [if_neg (by omega), if_neg h3]; rfl
          clear HF
          go_enter Tryz.func149, Tryz.ntmps149
          go_wp2_with (go_at_call 166; refine hcall.mono ?_; rintro e w' ⟨rfl, hb, c0, c1, c2⟩)
          go_ret
          exact ⟨by rw [HE.out]; rfl, hb⟩
end

theorem check_any (v : Val) (hv : v.ok) (w : World) :
    Calls Tryz.prog 149 #[.agg #[.int .i64 v.ty, .int .i64 v.n, .string v.s]] w fun e w' => e = .returned (errV (valE v)) ∧ Below w.heap.size w w' := by
  obtain ⟨ty, n, s⟩ := v
  obtain ⟨_, _, hs⟩ := hv
  show Calls Tryz.prog 149 #[.agg #[.int .i64 ty, .int .i64 n, .string s]] w _
  by_cases h1 : ty = 1
  · subst h1; exact check_int n s w hs
  by_cases h2 : ty = 2
  · subst h2; exact check_bool n s w hs
  by_cases h3 : ty = 3
  · subst h3; exact check_text n s w hs
  exact check_bad ty n s w (by rintro (h | h | h) <;> contradiction)

/-- The slice value v, in a block from B on, holds just the cells xs; nobody else writes there. -/
def Own (w : World) (B : Nat) (e : TypeId) (sz : Nat) (v : Value) (n : Nat) (xs : List Value) : Prop :=
  xs.length = n * sz ∧
  ((v = .slice none 0 0 ∧ n = 0) ∨
   ∃ g o cap cur, v = .slice (some ⟨g, o, none⟩) n cap ∧ B ≤ g ∧ w.heap[g]? = some (.cells cur e (0, 0)) ∧ n ≤ cap ∧ cap ≤ maxLen ∧ o + cap * sz ≤ cur.size ∧ (cur.toList.drop o).take (n * sz) = xs)

section
variable {w w' : World} {B : Nat} {e : TypeId} {sz : Nat} {v : Value} {n : Nat} {xs : List Value}

theorem Own.nil (w : World) (B : Nat) (e : TypeId) (sz : Nat) : Own w B e sz (.slice none 0 0) 0 [] := ⟨by simp, .inl ⟨rfl, rfl⟩⟩
theorem Own.form (h : Own w B e sz v n xs) : ∃ A c, v = .slice A n c ∧ n ≤ c ∧ c ≤ maxLen := by
  rcases h.2 with ⟨rfl, rfl⟩ | ⟨g, o, cap, cur, rfl, _, _, h1, h2, _⟩
  · exact ⟨none, 0, rfl, Nat.le_refl _, Nat.zero_le _⟩
  · exact ⟨_, _, rfl, h1, h2⟩
theorem Own.lt (h : Own w B e sz v n xs) : ∀ k, v.ownBlock = some k → B ≤ k ∧ k < w.heap.size := by
  intro k hk
  rcases h.2 with ⟨rfl, _⟩ | ⟨g, o, cap, cur, rfl, hb, hg, _⟩
  · simp [Value.ownBlock] at hk
  · simp [Value.ownBlock] at hk
    subst hk
    exact ⟨hb, (Array.getElem?_eq_some_iff.1 hg).1⟩
/-- It stays as long as its block does. -/
theorem Own.keep (h : Own w B e sz v n xs) (hk : ∀ k, v.ownBlock = some k → w'.heap[k]? = w.heap[k]?) : Own w' B e sz v n xs := by
  refine ⟨h.1, ?_⟩
  rcases h.2 with hn | ⟨g, o, cap, cur, rfl, hb, hg, rest⟩
  · exact .inl hn
  · exact .inr ⟨g, o, cap, cur, rfl, hb, (hk g (by simp [Value.ownBlock])).trans hg, rest⟩
theorem Own.below (h : Own w B e sz v n xs) (hb : Below w.heap.size w w') : Own w' B e sz v n xs :=
  h.keep fun k hk => hb.block k (h.lt k hk).2
theorem Own.alloc (h : Own w B e sz v n xs) (o : Obj) : Own (w.alloc o) B e sz v n xs :=
  h.keep fun k hk => Below.heap_alloc w o k (h.lt k hk).2
theorem Own.drewN (h : Own w B e sz v n xs) (k : Nat) : Own (w.drewN k) B e sz v n xs := h
theorem Own.grown {row : Option Nat} (h : Own w B e sz v n xs) (hg : w.grownBy w' row) (hne : v.ownBlock = none ∨ v.ownBlock ≠ row) : Own w' B e sz v n xs :=
  h.keep fun k hk => hg.block k (h.lt k hk).2 (by rw [← hk]; rcases hne with h0 | h0; (· rw [hk] at h0; cases h0); exact h0)
theorem Own.setCell (h : Own w B e sz v n xs) (p : Addr) (u : Value) (hne : v.ownBlock ≠ some p.block) : Own (w.setCell p u) B e sz v n xs :=
  h.keep fun k hk => Below.heap_setCell w p u k (fun e => hne (by rw [hk, e]))
theorem Own.mono {B' : Nat} (h : Own w B e sz v n xs) (hB : B' ≤ B) : Own w B' e sz v n xs := by
  refine ⟨h.1, ?_⟩
  rcases h.2 with hn | ⟨g, o, cap, cur, rfl, hb, rest⟩
  · exact .inl hn
  · exact .inr ⟨g, o, cap, cur, rfl, by omega, rest⟩
/-- A cell of it. -/
theorem Own.cell (h : Own w B e sz v n xs) {g o c : Nat} (hv : v = .slice (some ⟨g, o, none⟩) n c) {j : Nat} {u : Value} (hj : xs[j]? = some u) : w.cell? ⟨g, o + j, none⟩ = some u := by
  rcases h.2 with ⟨rfl, _⟩ | ⟨g', o', cap, cur, rfl, _, hg, _, _, hcs, ht⟩
  · cases hv
  · injection hv with h1 _ _
    injection h1 with h1
    injection h1 with h1 h2
    subst h1; subst h2
    rw [cell_of_row w g' _ cur e (0, 0) hg]
    rw [← ht, List.getElem?_take] at hj
    split at hj
    · rw [List.getElem?_drop] at hj; simpa using hj
    · cases hj
theorem Own.frozen (h : Own w B e sz v n xs) {g o c : Nat} (hv : v = .slice (some ⟨g, o, none⟩) n c) (j : Nat) : w.frozen? ⟨g, j, none⟩ = false := by
  rcases h.2 with ⟨rfl, _⟩ | ⟨g', o', cap, cur, rfl, _, hg, _⟩
  · cases hv
  · injection hv with h1 _ _
    injection h1 with h1
    injection h1 with h1 h2
    subst h1
    simp [World.frozen?, hg]
theorem Own.addr (h : Own w B e sz v n xs) (hn : 0 < n) : ∃ g o c, v = .slice (some ⟨g, o, none⟩) n c ∧ B ≤ g ∧ g < w.heap.size := by
  rcases h.2 with ⟨_, h0⟩ | ⟨g, o, cap, cur, rfl, hb, hg, _⟩
  · omega
  · exact ⟨g, o, cap, rfl, hb, (Array.getElem?_eq_some_iff.1 hg).1⟩
/-- A store into it. -/
theorem Own.store {g o c : Nat} (h : Own w B e sz (.slice (some ⟨g, o, none⟩) n c) n xs) (j : Nat) (hj : j < n * sz) (u : Value) : Own (w.setCell ⟨g, o + j, none⟩ u) B e sz (.slice (some ⟨g, o, none⟩) n c) n (xs.set j u) := by
  refine ⟨by rw [List.length_set]; exact h.1, ?_⟩
  rcases h.2 with ⟨h0, _⟩ | ⟨g', o', cap, cur, hv, hb, hg, h1, h2, h3, ht⟩
  · cases h0
  · injection hv with e1 _ e3
    injection e1 with e1
    injection e1 with e1 e2
    subst e1; subst e2; subst e3
    refine .inr ⟨g, o, c, cur.setIfInBounds (o + j) u, rfl, hb, ?_, h1, h2, by simpa using h3, ?_⟩
    · simp [World.setCell, Array.getElem?_modify, hg]
    · have hle : n * sz ≤ c * sz := Nat.mul_le_mul_right _ h1
      rw [← ht]
      apply List.ext_getElem?
      intro i
      simp only [List.getElem?_take, List.getElem?_drop, Array.toList_setIfInBounds, List.getElem?_set]
      by_cases hij : j = i
      · subst hij
        have hoj : o + j < cur.size := by omega
        have hjx : j < (List.take (n * sz) (List.drop o cur.toList)).length := by simp; omega
        simp [hj, hoj]
        omega
      · simp [hij]
/-- What is behind the first k. -/
theorem Own.cut {g o c : Nat} (h : Own w B e sz (.slice (some ⟨g, o, none⟩) n c) n xs) {k : Nat} (hk : k ≤ n) (_hc : k < c) : Own w B e sz (.slice (some ⟨g, o + k * sz, none⟩) (n - k) (c - k)) (n - k) (xs.drop (k * sz)) := by
  refine ⟨by rw [List.length_drop, h.1, Nat.sub_mul], ?_⟩
  rcases h.2 with ⟨h0, _⟩ | ⟨g', o', cap, cur, hv, hb, hg, h1, h2, h3, ht⟩
  · cases h0
  · injection hv with e1 _ e3
    injection e1 with e1
    injection e1 with e1 e2
    subst e1; subst e2; subst e3
    refine .inr ⟨g, o + k * sz, c - k, cur, rfl, hb, hg, by omega, by omega, ?_, ?_⟩
    · have : k * sz + (c - k) * sz = c * sz := by rw [← Nat.add_mul]; congr 1; omega
      omega
    · rw [← ht, List.drop_take, List.drop_drop, Nat.sub_mul]
end

theorem grownBy_refl (w : World) (row : Option Nat) : w.grownBy w row := ⟨rfl, rfl, rfl, Nat.le_refl _, fun _ _ _ => rfl⟩

section
variable {P : Program} (w : World)
theorem run_append_at (t ty e : TypeId) (i : TypeInfo) (ht : P.underlying t = some (.slice e)) (hi : P.info? e = some i)
    (g o sLen sCap : Nat) (cur : Array Value) (hg : w.heap[g]? = some (.cells cur e (0, 0)))
    (a : Addr) (m c : Nat) (news : List Value) (hl : news.length = m * i.size) (hnews : ∀ j u, news[j]? = some u → w.cell? (a.add j) = some u) (h1 : ∀ u ∈ news, u.oneCell' = true)
    (hroom : sLen + m ≤ sCap) (hfit : o + sLen * i.size + news.length ≤ cur.size) :
    (Builtin.append_ #[t, t] ty #[.slice (some ⟨g, o, none⟩) sLen sCap, .slice (some a) m c]).run P w =
      .ok (.slice (some ⟨g, o, none⟩) (sLen + m) sCap) (w.setRow g (cur.toList.take (o + sLen * i.size) ++ news ++ cur.toList.drop (o + sLen * i.size + news.length)).toArray) := by
  have hf := run_firstCells_some (P := P) w i.size m a m c news hl hnews
  have hst := run_storeCells_at P g (o + sLen * i.size) e news 0 cur w hg (by simpa using hfit) h1
  simp only [Nat.add_zero] at hst
  have hadd : (⟨g, o, none⟩ : Addr).add (sLen * i.size) = ⟨g, o + sLen * i.size, none⟩ := by unfold Addr.add; split <;> simp_all
  simp [Builtin.append_, run_underlying ht, sizeOf, typeInfo, hi, Builtin.lenOf, hroom, hf, hadd, hst]

/-- append onto an owned slice, whatever is appended. -/
theorem run_append_q (B : Nat) (t ty e : TypeId) (i : TypeInfo) (z : Value) (size bytes : Nat) (ht : P.underlying t = some (.slice e)) (hi : P.info? e = some i) (hz : i.zero = some z)
    (hsize : i.size = size) (hby : i.bytes = bytes) (hzs : z.cells.size = size) (hsz : 0 < size)
    (v : Value) (n : Nat) (xs : List Value) (hown : Own w B e size v n xs)
    (A : Option Addr) (m c : Nat) (news : List Value) (hl : news.length = m * size) (hA : 0 < m → ∃ a, A = some a ∧ ∀ j u, news[j]? = some u → w.cell? (a.add j) = some u) (h1 : ∀ u ∈ news, u.oneCell' = true)
    (h63 : n + m ≤ maxLen) (hbytes : (n + m) * bytes ≤ 140737488355328) (hbase : B ≤ w.heap.size) :
    ∃ v' w', (Builtin.append_ #[t, t] ty #[v, .slice A m c]).run P w = .ok v' w' ∧ Own w' B e size v' (n + m) (xs ++ news) ∧ w.grownBy w' v.ownBlock ∧ (v'.ownBlock = v.ownBlock ∨ v'.ownBlock = some w.heap.size) := by
  subst hsize
  subst hby
  have hsmall : n + m ≤ 9223372036854775807 := by simp only [maxLen] at h63; omega
  have hlen : (xs ++ news).length = (n + m) * i.size := by rw [List.length_append, hown.1, hl, Nat.add_mul]
  have grown : ∀ (old : Nat), old < n + m → ∀ (row : Option Nat),
      Own (w.drew.alloc (.cells (xs.toArray ++ news.toArray ++ Builtin.zeroCells z.cells (grownCap w (n + m) old e - (n + m))) e)) B e i.size
        (.slice (some ⟨w.heap.size, 0, none⟩) (n + m) (grownCap w (n + m) old e)) (n + m) (xs ++ news) ∧
      w.grownBy (w.drew.alloc (.cells (xs.toArray ++ news.toArray ++ Builtin.zeroCells z.cells (grownCap w (n + m) old e - (n + m))) e)) row := by
    intro old ho row
    have hge := grownCap_ge w (n + m) old e
    have hcm : grownCap w (n + m) old e ≤ maxLen := grownCap_le_maxLen w (n + m) old e h63
    refine ⟨⟨hlen, .inr ⟨w.heap.size, 0, _, _, rfl, hbase, heap_alloc_new w.drew _, hge, hcm, ?_, ?_⟩⟩, ⟨rfl, rfl, rfl, by simp, fun k hk _ => Below.heap_alloc w.drew _ k hk⟩⟩
    · simp only [Array.size_append, List.size_toArray, size_zeroCells, hzs, hown.1, hl, ← Nat.add_mul]
      have : n + m + (grownCap w (n + m) old e - (n + m)) = grownCap w (n + m) old e := by omega
      rw [this]; omega
    · simp only [Array.toList_append, List.append_assoc, List.drop_zero]
      rw [← List.append_assoc, ← hlen]
      exact List.take_left
  by_cases hm : m = 0
  · subst hm
    have hn : news = [] := List.eq_nil_of_length_eq_zero (by simpa using hl)
    subst hn
    refine ⟨v, w, ?_, by simpa using hown, grownBy_refl w _, Or.inl rfl⟩
    rcases hown.2 with ⟨rfl, rfl⟩ | ⟨g, o, cap, cur, rfl, _, hg, hnc, _⟩
    · cases A <;> simp [Builtin.append_, run_underlying ht, sizeOf, typeInfo, hi, Builtin.lenOf, Builtin.firstCells, loadCells, loadCellsFrom]
    · cases A <;> simp [Builtin.append_, run_underlying ht, sizeOf, typeInfo, hi, Builtin.lenOf, Builtin.firstCells, loadCells, loadCellsFrom, hnc, storeCells]
  obtain ⟨a, rfl, hnews⟩ := hA (by omega)
  rcases hown.2 with ⟨rfl, rfl⟩ | ⟨g, o, cap, cur, rfl, hbg, hg, hnc, hcm, hcs, htake⟩
  · have hx : xs = [] := List.eq_nil_of_length_eq_zero (by simpa using hown.1)
    subst hx
    have hr := run_append_nil (P := P) w t ty e i z ht hi hz a m c news hl hnews (by omega) (by omega) (by have hb := hbytes; simp only [Nat.zero_add] at hb; omega)
    have hgr := grown 0 (by omega) (Value.ownBlock (.slice none 0 0))
    simp only [Nat.zero_add, List.nil_append, Array.empty_append] at hgr ⊢
    exact ⟨_, _, hr, hgr.1, hgr.2, Or.inr rfl⟩
  · by_cases hroom : n + m ≤ cap
    · have hle : (n + m) * i.size ≤ cap * i.size := Nat.mul_le_mul_right _ hroom
      have hnm : n * i.size + news.length = (n + m) * i.size := by rw [hl, ← Nat.add_mul]
      have hfit : o + n * i.size + news.length ≤ cur.size := by omega
      have hr := run_append_at (P := P) w t ty e i ht hi g o n cap cur hg a m c news hl hnews h1 hroom hfit
      refine ⟨_, _, hr, ⟨hlen, .inr ⟨g, o, cap, _, rfl, hbg, setRow_heap w g cur _ e _ hg, hroom, hcm, ?_, ?_⟩⟩, ⟨rfl, rfl, rfl, by simp, fun k _ hk => setRow_other w g k _ (fun e => hk (by simp [Value.ownBlock, e]))⟩, Or.inl rfl⟩
      · simp only [List.size_toArray, List.length_append, List.length_take, List.length_drop, Array.length_toList]
        omega
      · simp only [List.append_assoc]
        rw [List.drop_append_of_le_length (by simp; omega), ← List.append_assoc]
        have e1 : (cur.toList.take (o + n * i.size)).drop o = xs := by rw [List.drop_take, ← htake]; congr 1; omega
        rw [e1, ← hlen]
        exact List.take_left
    · have holds : ∀ j u, xs[j]? = some u → w.cell? ((⟨g, o, none⟩ : Addr).add j) = some u := by
        intro j u hj
        have hadd : (⟨g, o, none⟩ : Addr).add j = ⟨g, o + j, none⟩ := by unfold Addr.add; split <;> simp_all
        rw [hadd]
        exact hown.cell rfl hj
      have hr := run_append_grow (P := P) w t ty e i z ht hi hz ⟨g, o, none⟩ n cap xs hown.1 holds a m c news hl hnews (by omega) (by omega) (growslice_fits (by omega) hbytes)
      have hgr := grown cap (by omega) (Value.ownBlock (.slice (some ⟨g, o, none⟩) n cap))
      exact ⟨_, _, hr, hgr.1, hgr.2, Or.inr rfl⟩

theorem wp_append_q {o : Oper} {a : Act} {K : Act → World → Prop} {Q : Exit → Act → World → Prop} (s x : Operand) (t : TypeId)
    (ho : o.op = .call { callee := .builtin .append, args := #[s, x], argTypes := #[t, t] })
    (B : Nat) (e : TypeId) (i : TypeInfo) (z : Value) (size bytes : Nat) (ht : P.underlying t = some (.slice e)) (hi : P.info? e = some i) (hz : i.zero = some z)
    (hsize : i.size = size) (hby : i.bytes = bytes) (hzs : z.cells.size = size) (hsz : 0 < size)
    (v : Value) (n : Nat) (xs : List Value) (hs : a.eval s = v) (hown : Own w B e size v n xs)
    (A : Option Addr) (m c : Nat) (news : List Value) (hx : a.eval x = .slice A m c) (hl : news.length = m * size) (hA : 0 < m → ∃ a, A = some a ∧ ∀ j u, news[j]? = some u → w.cell? (a.add j) = some u) (h1 : ∀ u ∈ news, u.oneCell' = true)
    (h63 : n + m ≤ maxLen) (hbytes : (n + m) * bytes ≤ 140737488355328) (hbase : B ≤ w.heap.size)
    (h : ∀ v' w', Own w' B e size v' (n + m) (xs ++ news) → w.grownBy w' v.ownBlock → (v'.ownBlock = v.ownBlock ∨ v'.ownBlock = some w.heap.size) → K (a.put o.dst v') w') : o.wp P a w K Q := by
  obtain ⟨v', w', hr, h2, h3, h4⟩ := run_append_q (P := P) w B t o.type e i z size bytes ht hi hz hsize hby hzs hsz v n xs hown A m c news hl hA h1 h63 hbytes hbase
  unfold Oper.wp execOp
  simp only [ho, resolve, invoke, builtin, Sem.run_bind, Sem.run_pure, Result.andThen_ok, List.map_toArray, List.map_cons, List.map_nil, hs, hx, hr]
  exact h v' w' h2 h3 h4

theorem wpList_append_q {ops : Array Oper} {rest : List Oper} {o : Oper} {a : Act} {Q : Exit → Act → World → Prop} (hgd : o.guard = none) (s x : Operand) (t : TypeId)
    (ho : o.op = .call { callee := .builtin .append, args := #[s, x], argTypes := #[t, t] })
    (B : Nat) (e : TypeId) (i : TypeInfo) (z : Value) (size bytes : Nat) (ht : P.underlying t = some (.slice e)) (hi : P.info? e = some i) (hz : i.zero = some z)
    (hsize : i.size = size) (hby : i.bytes = bytes) (hzs : z.cells.size = size) (hsz : 0 < size)
    (v : Value) (n : Nat) (xs : List Value) (hs : a.eval s = v) (hown : Own w B e size v n xs)
    (A : Option Addr) (m c : Nat) (news : List Value) (hx : a.eval x = .slice A m c) (hl : news.length = m * size) (hA : 0 < m → ∃ a, A = some a ∧ ∀ j u, news[j]? = some u → w.cell? (a.add j) = some u) (h1 : ∀ u ∈ news, u.oneCell' = true)
    (h63 : n + m ≤ maxLen) (hbytes : (n + m) * bytes ≤ 140737488355328) (hbase : B ≤ w.heap.size)
    (h : ∀ v' w', Own w' B e size v' (n + m) (xs ++ news) → w.grownBy w' v.ownBlock → (v'.ownBlock = v.ownBlock ∨ v'.ownBlock = some w.heap.size) → wpList P ops Q rest (a.put o.dst v') w') : wpList P ops Q (o :: rest) a w :=
  wpList_plain hgd fun _ hK => wp_append_q w s x t ho B e i z size bytes ht hi hz hsize hby hzs hsz v n xs hs hown A m c news hx hl hA h1 h63 hbytes hbase fun v' w' h2 h3 h4 => hK _ _ (h v' w' h2 h3 h4)
end

/-- An owned row of ints reads as them. -/
theorem Own.ints {w : World} {B : Nat} {e : TypeId} {v : Value} {l : List Int} (hl : ∀ x ∈ l, I64 x) (h : Own w B e 1 v l.length (l.map (Value.int .i64))) : Sl intL w v l := by
  obtain ⟨A, c, rfl, h1, h2⟩ := h.form
  refine ⟨A, c, rfl, h1, h2, fun i d hi => ?_⟩
  obtain ⟨g, o, c', hv, _, _⟩ := h.addr (len_pos hi)
  injection hv with hA _ hc
  subst hA; subst hc
  refine ⟨g, o, _, rfl, ⟨rfl, hl d (List.mem_of_getElem? hi)⟩, fun j u hj => ?_⟩
  match j, hj with
  | 0, hj =>
    simp at hj
    subst hj
    have := h.cell rfl (j := i) (u := .int .i64 d) (by simp [hi])
    simpa [intL, flatL] using this
end Go.Proofs.YtflidfmpmakggaaGreatDoor
