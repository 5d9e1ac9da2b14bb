/- Parts: ValA, TxL. -/
import Derived.Test.YtgioaphnadncfaaDoorRows
import Derived.Test.YtgioaphnadncfaaDoorMg01
import Derived.Deep.LoopGhost
import Derived.Shelf.GgClosure.Gives
import Derived.Lib.ConvBytes
import Derived.Shelf.Strings.OnBuilder
import Derived.Shelf.Strings.BuilderF
import Derived.Shelf.Strings.BuilderK
import Derived.Shelf.Strings.MapGrows
import Derived.Shelf.Strings.SplitShaped
import Derived.Shelf.Strings.Prefix
import Derived.Shelf.Strconv.Itoa3
import Derived.Lib.AppendIntMem
import Derived.Shelf.Strconv.ErrVarAll
/- Contracts: what value.Name, value.Check, record.prop and record.Check of the program answer, for every input that is not too long; plain functions on bytes beside them. -/
namespace Go.Proofs.YtgioaphnadncfaaDoor
open Go.RowKit

/-- The place of the first that meets p; -1: none does. -/
def idxI {D : Type} (p : D → Bool) (l : List D) : Int := match l.findIdx? p with | some i => i | none => -1
theorem idxI_hit {D : Type} {p : D → Bool} {l : List D} {k : Nat} {d : D} (h1 : ∀ j x, j < k → l[j]? = some x → p x = false) (h2 : l[k]? = some d) (h3 : p d = true) : idxI p l = k := by
  unfold idxI
  have : l.findIdx? p = some k := by
    rw [List.findIdx?_eq_some_iff_getElem]
    obtain ⟨hk, rfl⟩ := List.getElem?_eq_some_iff.1 h2
    exact ⟨hk, h3, fun j hj => by simp [h1 j _ hj (List.getElem?_eq_getElem (by omega))]⟩
  rw [this]
theorem idxI_miss {D : Type} {p : D → Bool} {l : List D} (h1 : ∀ j x, j < l.length → l[j]? = some x → p x = false) : idxI p l = -1 := by
  unfold idxI
  have : l.findIdx? p = none := by
    rw [List.findIdx?_eq_none_iff]
    intro x hx
    obtain ⟨j, hj, rfl⟩ := List.getElem_of_mem hx
    exact h1 j _ hj (List.getElem?_eq_getElem hj)
  rw [this]
theorem idxI_any {D : Type} (p : D → Bool) (l : List D) : decide ((0 : Int) ≤ idxI p l) = l.any p := by
  unfold idxI
  cases h : l.findIdx? p with
  | none =>
    rw [List.findIdx?_eq_none_iff] at h
    have : l.any p = false := by rw [List.any_eq_false]; intro x hx; simp [h x hx]
    rw [this]; rfl
  | some i =>
    obtain ⟨hi, hp, _⟩ := List.findIdx?_eq_some_iff_getElem.1 h
    have : l.any p = true := List.any_eq_true.2 ⟨_, List.getElem_mem hi, hp⟩
    rw [this]; simp
theorem miss_step {D : Type} {p : D → Bool} {l : List D} {k : Nat} {d : D} (h1 : ∀ j x, j < k → l[j]? = some x → p x = false) (h2 : l[k]? = some d) (h3 : p d = false) : ∀ j x, j < k + 1 → l[j]? = some x → p x = false := by
  intro j x hj hx
  by_cases e : j = k
  · subst e
    have := h2.symm.trans hx
    cases this
    exact h3
  · exact h1 j x (by omega) hx

/-- What is asked of a function value: on each element, in every later world, it answers p and leaves what there was. -/
def PredB {D : Type} (P : Program) (g : Nat) (caps : Array Value) (V : World → D → Value → Prop) (p : D → Bool) (w : World) : Prop :=
  ∀ x u wx, Below w.heap.size w wx → V wx x u → Calls P g (#[u] ++ caps) wx (fun e w' => e = .returned (.bool (p x)) ∧ Below wx.heap.size wx w')

set_option maxHeartbeats 400000 in
theorem idx_byte (g : Nat) (caps : Array Value) (eg : ∀ args w, (callFunc g args).run Tryd.prog w = .ok (.enter g args) w) (p : UInt8 → Bool) (l : List UInt8) (v : Value) (w : World) (hv : Sl byteL w v l)
    (hp : PredB Tryd.prog g caps (fun _ x u => u = .int .u8 x.toNat) p w) :
    Calls Tryd.prog 57 #[v, .func (.func g) #[] caps] w fun e w' => e = .returned (.int .i64 (idxI p l)) ∧ Below w.heap.size w w' := by
  obtain ⟨A, c, rfl, hlc, hcm⟩ := hv.form
  unfold maxLen at hcm
  go_enter Tryd.func57, Tryd.ntmps57
  go_wp2_with fail
  go_loopw [8] (fun i wr => ∃ k : Nat, k ≤ l.length ∧ i = .int .i64 k ∧ Below w.heap.size w wr ∧ Hid (∀ j x, j < k → l[j]? = some x → p x = false)) (fun i _ => l.length - (intOf i).toNat)
  case atStart => exact ⟨0, Nat.zero_le _, rfl, Below.refl _ _, fun j x hj => absurd hj (Nat.not_lt_zero _)⟩
  case round =>
    obtain ⟨k, hk, rfl, hb, HA⟩ := hrel
    by_cases hlt : k < l.length
    · obtain ⟨d, hd⟩ : ∃ d, l[k]? = some d := ⟨_, List.getElem?_eq_getElem hlt⟩
      obtain ⟨b, o, rfl, hcell⟩ := byte_at (hv.below hb) hd
      have HD : Hid (l[k]? = some d) := hd
      clear hd
      have hcall := hp d _ wr hb rfl
      clear hp hv
      cases hq : p d with
      | true =>
        rw [hq] at hcall
        have HQ : Hid (p d = true) := hq
        clear hq
        go_wp2_with (go_at_fn g; refine hcall.mono ?_; rintro e w' ⟨rfl, hb2⟩)
        go_ret
        exact ⟨ret_int (idxI_hit HA.out HD.out HQ.out).symm, hb.trans (hb2.mono hb.size)⟩
      | false =>
        rw [hq] at hcall
        have HQ : Hid (p d = false) := hq
        clear hq
        go_wp2_with (go_at_fn g; refine hcall.mono ?_; rintro e w' ⟨rfl, hb2⟩)
        go_roundw
        case rel => exact ⟨k + 1, by omega, by go_num, hb.trans (hb2.mono hb.size), miss_step HA.out HD.out HQ.out⟩
        case measure => simp [intOf]; omega
    · have hkl : k = l.length := by omega
      subst hkl
      go_wp2_with fail
      go_ret
      exact ⟨ret_int (idxI_miss HA.out).symm, hb⟩

theorem has_byte (g : Nat) (caps : Array Value) (eg : ∀ args w, (callFunc g args).run Tryd.prog w = .ok (.enter g args) w) (p : UInt8 → Bool) (l : List UInt8) (v : Value) (w : World) (hv : Sl byteL w v l)
    (hp : PredB Tryd.prog g caps (fun _ x u => u = .int .u8 x.toNat) p w) :
    Calls Tryd.prog 41 #[v, .func (.func g) #[] caps] w fun e w' => e = .returned (.bool (l.any p)) ∧ Below w.heap.size w w' := by
  have h1 := idx_byte g caps eg p l v w hv hp
  have h2 := idxI_any p l
  have H2 := Lib.hid h2
  clear h2 hv hp eg
  go_enter Tryd.func41, Tryd.ntmps41
  go_wp2_with (go_at_call 57; refine h1.mono ?_; rintro e w' ⟨rfl, hb⟩)
  go_ret
  exact ⟨ret_bool H2.out, hb⟩

/-- '[]byte(s)': a new row that reads as the text's bytes. -/
theorem bytes_sl (w : World) (s : ByteArray) (hs : Sm s) : Sl byteL (Lib.bytesWorld w 5 s) (.slice (some ⟨w.heap.size, 0, none⟩) s.size (grownCap w s.size 0 5)) s.data.toList ∧ Below w.heap.size w (Lib.bytesWorld w 5 s) := by
  have e : s.data.toList.length = s.size := by rw [Array.length_toList]; rfl
  refine ⟨⟨some ⟨w.heap.size, 0, none⟩, grownCap w s.size 0 5, by rw [e], by rw [e]; exact grownCap_ge _ _ _ _, ?_, ?_⟩, ⟨rfl, rfl, rfl, by rw [Lib.bytesWorld_size]; omega, fun k hk => Lib.bytesWorld_at_old w 5 s k hk⟩⟩
  · exact grownCap_le_maxLen _ _ _ _ (by unfold Sm at hs; unfold maxLen; omega)
  · intro i d hi
    refine ⟨_, _, _, rfl, ⟨rfl, trivial⟩, fun j u hj => ?_⟩
    have hlt : i < s.size := by rw [← e]; exact (List.getElem?_eq_some_iff.1 hi).1
    match j, hj with
    | 0, hj =>
      simp at hj
      subst hj
      have := Lib.bytesWorld_cell w 5 s i hlt
      simpa [byteL, flatL, List.getD, hi] using this

/-! ### value.Name -/
def nameC (c : UInt8) : Bool := decide ((c.toNat : Int) < 97) || decide (122 < (c.toNat : Int))
def nameE (s : ByteArray) : Int := if s.toList.isEmpty then 2 else if 8 < s.size then 2 else if s.data.toList.any nameC then 2 else 0
theorem name1 (c : UInt8) (w : World) :
    Calls Tryd.prog 54 #[.int .u8 c.toNat] w fun e w' => e = .returned (.bool (nameC c)) ∧ w = w' := by
  unfold nameC
  go_enter Tryd.func54, Tryd.ntmps54
  go_wp2
  all_goals go_ret
  all_goals exact ⟨rfl, rfl⟩
theorem name_any (s : ByteArray) (w : World) (hs : Sm s) :
    Calls Tryd.prog 37 #[.string s] w fun e w' => e = .returned (errV (nameE s)) ∧ Below w.heap.size w w' := by
  have hcv := fun wx => Lib.run_convert_string_bytes (P := Tryd.prog) wx 9 54 5 s Tryd.underlying9 Tryd.underlying54 Tryd.underlying5
  obtain ⟨hsl, hb⟩ := bytes_sl w s hs
  have hcall := has_byte 54 #[] (by intro args w; kernel_rfl) nameC s.data.toList _ _ hsl (fun x u wx _ hu => by subst hu; exact (name1 x wx).mono fun e w' ⟨h1, h2⟩ => ⟨h1, h2 ▸ Below.refl _ _⟩)
  have HF : Hid (nameE s = if s.toList.isEmpty then 2 else if 8 < s.size then 2 else if s.data.toList.any nameC then 2 else 0) := rfl
  clear hsl
  have hs' : s.size ≤ 1048576 := hs
  clear hs
  by_cases h0 : s.toList.isEmpty = true
  · have HE : Hid (errV (nameE s) = .iface 76 (.int .i64 2)) := by rw [HF.out, if_pos h0]; rfl
    clear hcall
    go_enter Tryd.func37, Tryd.ntmps37
    go_wp2_with fail
    go_ret
    exact ⟨by rw [HE.out]; rfl, Below.refl _ _⟩
  · have h0' : s.toList.isEmpty = false := by simpa using h0
    by_cases h8 : 8 < s.size
    · have HE : Hid (errV (nameE s) = .iface 76 (.int .i64 2)) := by rw [HF.out, if_neg h0, if_pos h8]; rfl
      have h8' : (8 : Int) < (s.size : Int) := by omega
      clear hcall h0
      go_enter Tryd.func37, Tryd.ntmps37
      go_wp2_with fail
      go_ret
      exact ⟨by rw [HE.out]; rfl, Below.refl _ _⟩
    · have h8' : decide ((8 : Int) < (s.size : Int)) = false := by simp; omega
      have h8'' : (s.size : Int) ≤ 8 := by omega
      clear h0
      cases hq : s.data.toList.any nameC with
      | true =>
        have HE : Hid (errV (nameE s) = .iface 76 (.int .i64 2)) := by rw [HF.out, h0', if_neg (by simp), if_neg h8, hq]; rfl
        rw [hq] at hcall
        clear hq
        go_enter Tryd.func37, Tryd.ntmps37
        go_wp2_with (go_at_call 41; refine hcall.mono ?_; rintro e w' ⟨rfl, hb2⟩)
        go_ret
        exact ⟨by rw [HE.out]; rfl, hb.trans (hb2.mono hb.size)⟩
      | false =>
        have HE : Hid (errV (nameE s) = .nilIface) := by rw [HF.out, h0', if_neg (by simp), if_neg h8, hq]; rfl
        rw [hq] at hcall
        clear hq
        go_enter Tryd.func37, Tryd.ntmps37
        go_wp2_with (go_at_call 41; refine hcall.mono ?_; rintro e w' ⟨rfl, hb2⟩)
        go_ret
        exact ⟨by rw [HE.out]; rfl, hb.trans (hb2.mono hb.size)⟩
open Go Go.Shelf Go.RowKit

-- written by shelflay.py for the seat YtgioaphnadncfaaDoor
def joinLay_ren : Go.Shelf.Ren := ⟨fun | 156 => 15 | 165 => 33 | 166 => 16 | 169 => 18 | 240 => 34 | 241 => 50 | 276 => 51 | 277 => 69 | n => n, fun | 31 => 30 | 9 => 9 | 3 => 3 | 4 => 4 | 0 => 0 | 20 => 20 | 72 => 56 | 76 => 49 | 70 => 53 | 37 => 54 | 75 => 27 | 127 => 88 | 164 => 100 | 5 => 5 | 80 => 65 | n => n, fun | n => n⟩
theorem joinLay : Go.Proofs.Lays.n156 Tryd.prog joinLay_ren := {
  mixed := by kernel_rfl,
  f156 := Tryd.func15.trans (congrArg some (by kernel_rfl)),
  f165 := Tryd.func33.trans (congrArg some (by kernel_rfl)),
  f166 := Tryd.func16.trans (congrArg some (by kernel_rfl)),
  f169 := Tryd.func18.trans (congrArg some (by kernel_rfl)),
  f240 := Tryd.func34.trans (congrArg some (by kernel_rfl)),
  f241 := Tryd.func50.trans (congrArg some (by kernel_rfl)),
  f276 := Tryd.func51.trans (congrArg some (by kernel_rfl)),
  f277 := Tryd.func69.trans (congrArg some (by kernel_rfl)),
  t0 := Tryd.underlying0,
  a0 := Tryd.isAgg0,
  z0 := Tryd.sizeOf0,
  v0 := Tryd.zeroValue0,
  t3 := Tryd.underlying3,
  a3 := Tryd.isAgg3,
  z3 := Tryd.sizeOf3,
  v3 := Tryd.zeroValue3,
  t4 := Tryd.underlying4,
  a4 := Tryd.isAgg4,
  z4 := Tryd.sizeOf4,
  v4 := Tryd.zeroValue4,
  t9 := Tryd.underlying9,
  a9 := Tryd.isAgg9,
  z9 := Tryd.sizeOf9,
  v9 := Tryd.zeroValue9,
  t20 := Tryd.underlying20,
  a20 := Tryd.isAgg20,
  z20 := Tryd.sizeOf20,
  v20 := Tryd.zeroValue20,
  t31 := Tryd.underlying30,
  a31 := Tryd.isAgg30,
  z31 := Tryd.sizeOf30,
  v31 := Tryd.zeroValue30,
  t37 := Tryd.underlying54,
  a37 := Tryd.isAgg54,
  z37 := Tryd.sizeOf54,
  v37 := Tryd.zeroValue54,
  t70 := Tryd.underlying53,
  a70 := Tryd.isAgg53,
  z70 := Tryd.sizeOf53,
  v70 := Tryd.zeroValue53,
  t72 := Tryd.underlying56,
  a72 := Tryd.isAgg56,
  z72 := Tryd.sizeOf56,
  v72 := Tryd.zeroValue56,
  t75 := Tryd.underlying27,
  a75 := Tryd.isAgg27,
  z75 := Tryd.sizeOf27,
  v75 := Tryd.zeroValue27,
  t76 := Tryd.underlying49,
  a76 := Tryd.isAgg49,
  z76 := Tryd.sizeOf49,
  v76 := Tryd.zeroValue49,
  t127 := Tryd.underlying88,
  a127 := Tryd.isAgg88,
  z127 := Tryd.sizeOf88,
  v127 := Tryd.zeroValue88,
  t164 := Tryd.underlying100,
  a164 := Tryd.isAgg100,
  z164 := Tryd.sizeOf100,
  v164 := Tryd.zeroValue100 }
theorem joinLay_x : Builder.Extra Tryd.prog joinLay_ren := {
  sizeBuilder := by kernel_rfl,
  liesBuilder := by kernel_rfl,
  t5 := Tryd.underlying5,
  a5 := Tryd.isAgg5,
  z5 := Tryd.sizeOf5,
  v5 := Tryd.zeroValue5,
  infoByte := by kernel_rfl,
  cellsByte := by kernel_rfl,
  sizeByte := by kernel_rfl,
  neB5 := by decide }
-- written by shelflay.py for the seat YtgioaphnadncfaaDoor
def bwrLay_ren : Go.Shelf.Ren := ⟨fun | 166 => 16 | 240 => 34 | 276 => 51 | n => n, fun | 70 => 53 | 9 => 9 | 3 => 3 | 75 => 27 | 0 => 0 | 72 => 56 | 37 => 54 | 4 => 4 | 164 => 100 | 80 => 65 | 5 => 5 | 20 => 20 | n => n, fun | n => n⟩
theorem bwrLay : Go.Proofs.Lays.n166 Tryd.prog bwrLay_ren := {
  mixed := by kernel_rfl,
  f166 := Tryd.func16.trans (congrArg some (by kernel_rfl)),
  f240 := Tryd.func34.trans (congrArg some (by kernel_rfl)),
  f276 := Tryd.func51.trans (congrArg some (by kernel_rfl)),
  t0 := Tryd.underlying0,
  a0 := Tryd.isAgg0,
  z0 := Tryd.sizeOf0,
  v0 := Tryd.zeroValue0,
  t3 := Tryd.underlying3,
  a3 := Tryd.isAgg3,
  z3 := Tryd.sizeOf3,
  v3 := Tryd.zeroValue3,
  t4 := Tryd.underlying4,
  a4 := Tryd.isAgg4,
  z4 := Tryd.sizeOf4,
  v4 := Tryd.zeroValue4,
  t9 := Tryd.underlying9,
  a9 := Tryd.isAgg9,
  z9 := Tryd.sizeOf9,
  v9 := Tryd.zeroValue9,
  t20 := Tryd.underlying20,
  a20 := Tryd.isAgg20,
  z20 := Tryd.sizeOf20,
  v20 := Tryd.zeroValue20,
  t37 := Tryd.underlying54,
  a37 := Tryd.isAgg54,
  z37 := Tryd.sizeOf54,
  v37 := Tryd.zeroValue54,
  t70 := Tryd.underlying53,
  a70 := Tryd.isAgg53,
  z70 := Tryd.sizeOf53,
  v70 := Tryd.zeroValue53,
  t72 := Tryd.underlying56,
  a72 := Tryd.isAgg56,
  z72 := Tryd.sizeOf56,
  v72 := Tryd.zeroValue56,
  t75 := Tryd.underlying27,
  a75 := Tryd.isAgg27,
  z75 := Tryd.sizeOf27,
  v75 := Tryd.zeroValue27,
  t164 := Tryd.underlying100,
  a164 := Tryd.isAgg100,
  z164 := Tryd.sizeOf100,
  v164 := Tryd.zeroValue100 }
theorem bwrLay_x : Builder.Extra Tryd.prog bwrLay_ren := {
  sizeBuilder := by kernel_rfl,
  liesBuilder := by kernel_rfl,
  t5 := Tryd.underlying5,
  a5 := Tryd.isAgg5,
  z5 := Tryd.sizeOf5,
  v5 := Tryd.zeroValue5,
  infoByte := by kernel_rfl,
  cellsByte := by kernel_rfl,
  sizeByte := by kernel_rfl,
  neB5 := by decide }
-- written by shelflay.py for the seat YtgioaphnadncfaaDoor
def bstrLay_ren : Go.Shelf.Ren := ⟨fun | 169 => 18 | n => n, fun | 70 => 53 | 9 => 9 | 0 => 0 | 72 => 56 | 37 => 54 | 127 => 88 | 3 => 3 | 5 => 5 | 20 => 20 | n => n, fun | n => n⟩
theorem bstrLay : Go.Proofs.Lays.n169 Tryd.prog bstrLay_ren := {
  mixed := by kernel_rfl,
  f169 := Tryd.func18.trans (congrArg some (by kernel_rfl)),
  t0 := Tryd.underlying0,
  a0 := Tryd.isAgg0,
  z0 := Tryd.sizeOf0,
  v0 := Tryd.zeroValue0,
  t3 := Tryd.underlying3,
  a3 := Tryd.isAgg3,
  z3 := Tryd.sizeOf3,
  v3 := Tryd.zeroValue3,
  t9 := Tryd.underlying9,
  a9 := Tryd.isAgg9,
  z9 := Tryd.sizeOf9,
  v9 := Tryd.zeroValue9,
  t37 := Tryd.underlying54,
  a37 := Tryd.isAgg54,
  z37 := Tryd.sizeOf54,
  v37 := Tryd.zeroValue54,
  t70 := Tryd.underlying53,
  a70 := Tryd.isAgg53,
  z70 := Tryd.sizeOf53,
  v70 := Tryd.zeroValue53,
  t72 := Tryd.underlying56,
  a72 := Tryd.isAgg56,
  z72 := Tryd.sizeOf56,
  v72 := Tryd.zeroValue56,
  t127 := Tryd.underlying88,
  a127 := Tryd.isAgg88,
  z127 := Tryd.sizeOf88,
  v127 := Tryd.zeroValue88 }
theorem bstrLay_x : Builder.Extra Tryd.prog bstrLay_ren := {
  sizeBuilder := by kernel_rfl,
  liesBuilder := by kernel_rfl,
  t5 := Tryd.underlying5,
  a5 := Tryd.isAgg5,
  z5 := Tryd.sizeOf5,
  v5 := Tryd.zeroValue5,
  infoByte := by kernel_rfl,
  cellsByte := by kernel_rfl,
  sizeByte := by kernel_rfl,
  neB5 := by decide }
-- written by shelflay.py for the seat YtgioaphnadncfaaDoor
def itoaSLay_ren : Go.Shelf.Ren := ⟨fun | 171 => 17 | 243 => 35 | 246 => 52 | 283 => 70 | 284 => 71 | 285 => 72 | 286 => 73 | 129 => 91 | 317 => 90 | 318 => 92 | 319 => 93 | 320 => 94 | 337 => 107 | 338 => 108 | n => n, fun | 3 => 3 | 9 => 9 | 2 => 2 | 4 => 4 | 171 => 118 | 0 => 0 | 53 => 119 | 37 => 54 | 5 => 5 | 173 => 122 | 212 => 143 | 51 => 144 | 20 => 20 | 213 => 145 | 46 => 128 | 232 => 170 | 233 => 171 | n => n, fun | 17 => 4 | 18 => 7 | 19 => 8 | n => n⟩
theorem itoaSLay : Go.Proofs.Lays.n171 Tryd.prog itoaSLay_ren := {
  mixed := by kernel_rfl,
  f129 := Tryd.func91.trans (congrArg some (by kernel_rfl)),
  f171 := Tryd.func17.trans (congrArg some (by kernel_rfl)),
  f243 := Tryd.func35.trans (congrArg some (by kernel_rfl)),
  f246 := Tryd.func52.trans (congrArg some (by kernel_rfl)),
  f283 := Tryd.func70.trans (congrArg some (by kernel_rfl)),
  f284 := Tryd.func71.trans (congrArg some (by kernel_rfl)),
  f285 := Tryd.func72.trans (congrArg some (by kernel_rfl)),
  f286 := Tryd.func73.trans (congrArg some (by kernel_rfl)),
  f317 := Tryd.func90.trans (congrArg some (by kernel_rfl)),
  f318 := Tryd.func92.trans (congrArg some (by kernel_rfl)),
  f319 := Tryd.func93.trans (congrArg some (by kernel_rfl)),
  f320 := Tryd.func94.trans (congrArg some (by kernel_rfl)),
  f337 := Tryd.func107.trans (congrArg some (by kernel_rfl)),
  f338 := Tryd.func108.trans (congrArg some (by kernel_rfl)),
  t0 := Tryd.underlying0,
  a0 := Tryd.isAgg0,
  z0 := Tryd.sizeOf0,
  v0 := Tryd.zeroValue0,
  t2 := Tryd.underlying2,
  a2 := Tryd.isAgg2,
  z2 := Tryd.sizeOf2,
  v2 := Tryd.zeroValue2,
  t3 := Tryd.underlying3,
  a3 := Tryd.isAgg3,
  z3 := Tryd.sizeOf3,
  v3 := Tryd.zeroValue3,
  t4 := Tryd.underlying4,
  a4 := Tryd.isAgg4,
  z4 := Tryd.sizeOf4,
  v4 := Tryd.zeroValue4,
  t5 := Tryd.underlying5,
  a5 := Tryd.isAgg5,
  z5 := Tryd.sizeOf5,
  v5 := Tryd.zeroValue5,
  t9 := Tryd.underlying9,
  a9 := Tryd.isAgg9,
  z9 := Tryd.sizeOf9,
  v9 := Tryd.zeroValue9,
  t20 := Tryd.underlying20,
  a20 := Tryd.isAgg20,
  z20 := Tryd.sizeOf20,
  v20 := Tryd.zeroValue20,
  t37 := Tryd.underlying54,
  a37 := Tryd.isAgg54,
  z37 := Tryd.sizeOf54,
  v37 := Tryd.zeroValue54,
  t46 := Tryd.underlying128,
  a46 := Tryd.isAgg128,
  z46 := Tryd.sizeOf128,
  v46 := Tryd.zeroValue128,
  t51 := Tryd.underlying144,
  a51 := Tryd.isAgg144,
  z51 := Tryd.sizeOf144,
  v51 := Tryd.zeroValue144,
  t53 := Tryd.underlying119,
  a53 := Tryd.isAgg119,
  z53 := Tryd.sizeOf119,
  v53 := Tryd.zeroValue119,
  t171 := Tryd.underlying118,
  a171 := Tryd.isAgg118,
  z171 := Tryd.sizeOf118,
  v171 := Tryd.zeroValue118,
  t173 := Tryd.underlying122,
  a173 := Tryd.isAgg122,
  z173 := Tryd.sizeOf122,
  v173 := Tryd.zeroValue122,
  t212 := Tryd.underlying143,
  a212 := Tryd.isAgg143,
  z212 := Tryd.sizeOf143,
  v212 := Tryd.zeroValue143,
  t213 := Tryd.underlying145,
  a213 := Tryd.isAgg145,
  z213 := Tryd.sizeOf145,
  t232 := Tryd.underlying170,
  a232 := Tryd.isAgg170,
  z232 := Tryd.sizeOf170,
  v232 := Tryd.zeroValue170,
  t233 := Tryd.underlying171,
  a233 := Tryd.isAgg171,
  z233 := Tryd.sizeOf171,
  v233 := Tryd.zeroValue171,
  g17 := by kernel_rfl,
  g18 := by kernel_rfl,
  g19 := by kernel_rfl }
-- written by shelflay.py for the seat YtgioaphnadncfaaDoor
-- written by shelflay.py for the seat YtgioaphnadncfaaDoor
-- written by shelflay.py for the seat YtgioaphnadncfaaDoor
-- written by shelflay.py for the seat YtgioaphnadncfaaDoor
-- written by shelflay.py for the seat YtgioaphnadncfaaDoor
theorem tx_join (bk o c : Nat) (xs : List ByteArray) (sep : ByteArray) (w : World) (hcells : ∀ (j : Nat) x, xs[j]? = some x → w.cell? ⟨bk, o + j, none⟩ = some (.string x)) (hbk : bk < w.heap.size) (hN : xs.length ≤ 140737488355328) (hcap : xs.length ≤ c)
    (hlen : (Lib.join (xs.map (·.data.toList)) sep.data.toList).length ≤ 140737488355328) :
    Calls Tryd.prog 15 #[.slice (some ⟨bk, o, none⟩) xs.length c, .string sep] w fun e w' => e = .returned (.string ⟨(Lib.join (xs.map (·.data.toList)) sep.data.toList).toArray⟩) ∧ Below w.heap.size w w' :=
  Any.strings_Join joinLay joinLay_x bk o c xs sep w hcells hbk hN hcap hlen
/-- A builder of the call's own, and what is in it. -/
def Bld (B b : Nat) (l : List UInt8) (w : World) : Prop := Lib.IsBuilderF 56 5 B b (Lib.byteCells l) w
theorem tx_write (B b : Nat) (l : List UInt8) (s : ByteArray) (w : World) (h : Bld B b l w) (hlen : l.length + s.size ≤ 140737488355328) (hB : B ≤ w.heap.size) :
    Calls Tryd.prog 16 #[.pointer (some ⟨b, 0, none⟩), .string s] w fun e w' => e = .returned (.tuple #[.int .i64 s.size, .nilIface]) ∧ Bld B b (l ++ s.data.toList) w' ∧ Below B w w' := by
  refine (Any.Builder_WriteString_f bwrLay bwrLay_x B b (Lib.byteCells l) s w h (by rw [Lib.byteCells_length]; exact hlen) hB).mono fun e w' ⟨h1, h2, h3⟩ => ⟨h1, .inr ?_, h3⟩
  rw [Lib.byteCells_append]
  exact h2
/-- The same, and what else stays. -/
theorem tx_writeK (B b : Nat) (l : List UInt8) (s : ByteArray) (w : World) (h : Bld B b l w) (hlen : l.length + s.size ≤ 140737488355328) (hB : B ≤ w.heap.size) :
    Calls Tryd.prog 16 #[.pointer (some ⟨b, 0, none⟩), .string s] w fun e w' => e = .returned (.tuple #[.int .i64 s.size, .nilIface]) ∧ Bld B b (l ++ s.data.toList) w' ∧ Below B w w' ∧ Lib.OthersKept 5 (some b) w w' := by
  refine (Any.Builder_WriteString_k bwrLay bwrLay_x B b (Lib.byteCells l) s w h (by rw [Lib.byteCells_length]; exact hlen) hB).mono fun e w' ⟨h1, h2, h3, h4⟩ => ⟨h1, .inr ?_, h3, h4⟩
  rw [Lib.byteCells_append]
  exact h2
theorem tx_string (B b : Nat) (l : List UInt8) (w : World) (h : Bld B b l w) (hB : B ≤ w.heap.size) :
    Calls Tryd.prog 18 #[.pointer (some ⟨b, 0, none⟩)] w fun e w' => e = .returned (.string ⟨l.toArray⟩) ∧ Below B w w' :=
  (Any.Builder_String_any_f bstrLay bstrLay_x B b l w h hB).mono fun _ _ ⟨h1, _, h3⟩ => ⟨h1, h3⟩
theorem Bld.below {B b : Nat} {l : List UInt8} {w w' : World} (h : Bld B b l w) (hb : Below w.heap.size w w') : Bld B b l w' := Lib.IsBuilderF.below h hb
theorem Bld.fresh {B : Nat} {w : World} (hB : B ≤ w.heap.size) : Bld B w.heap.size [] (w.alloc (.cells #[.pointer none, .slice none 0 0] 56)) :=
  .inl ⟨hB, .slice none 0 0, heap_alloc_new _ _, ⟨rfl, .inl ⟨rfl, rfl⟩⟩, by simp [Value.ownBlock]⟩
theorem tx_itoaS (i : Nat) (hi : i < 100) (w : World) : Calls Tryd.prog 17 #[.int .i64 i] w fun e w' => e = .returned (.string ⟨(Lib.decDigits i).toArray⟩) ∧ w' = w :=
  Any.strconv_Itoa_small itoaSLay i hi w
end Go.Proofs.YtgioaphnadncfaaDoor
