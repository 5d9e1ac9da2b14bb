/- Parts: KinD, Eqs, VtV, Qt. -/
import Derived.Test.YtgioaphnadncfaaDoorMg06
import Derived.Test.YtgioaphnadncfaaDoorMg02
import Derived.Laws.StructEq
import Derived.Test.YtgioaphnadncfaaDoorMg03
import Derived.StillTail
import Derived.BigQuiet
import Derived.Lib.QuietBelow
/- Contracts: slices.Index, slices.Contains over texts, kinref1.In, slices.IndexFunc over kinds, kind.Find. -/
namespace Go.Proofs.YtgioaphnadncfaaDoor
open Go.RowKit

theorem bytes_beq (a b : ByteArray) : (a.toList == b.toList) = decide (a = b) := by
  rw [Bool.eq_iff_iff, beq_iff_eq, decide_eq_true_eq]
  constructor
  · intro h
    rw [ByteArray.toList_eq, ByteArray.toList_eq] at h
    have := Array.toList_inj.1 h
    cases a; cases b; simp at this; rw [this]
  · intro h; rw [h]

set_option maxHeartbeats 400000 in
theorem indexStr_any (l : List ByteArray) (x : ByteArray) (v : Value) (w : World) (hv : Sl strL w v l) :
    Calls Tryd.prog 101 #[v, .string x] w fun e w' => e = .returned (.int .i64 (idxI (fun y => decide (x = y)) l)) ∧ w = w' := by
  obtain ⟨A, c, rfl, hlc, hcm⟩ := hv.form
  unfold maxLen at hcm
  go_enter Tryd.func101, Tryd.ntmps101
  go_wp2_with fail
  go_loop [8] (fun i => ∃ k : Nat, k ≤ l.length ∧ i = .int .i64 k ∧ Hid (∀ j y, j < k → l[j]? = some y → decide (x = y) = false)) (fun i => l.length - (intOf i).toNat)
  case atStart => exact ⟨0, Nat.zero_le _, rfl, fun j x hj => absurd hj (Nat.not_lt_zero _)⟩
  case round =>
    obtain ⟨k, hk, rfl, HA⟩ := hrel
    by_cases hlt : k < l.length
    · obtain ⟨d, hd⟩ : ∃ d, l[k]? = some d := ⟨_, List.getElem?_eq_getElem hlt⟩
      obtain ⟨b, o, rfl, _, hcell⟩ := str_at hv hd
      have HD : Hid (l[k]? = some d) := hd
      clear hd hv
      by_cases hq0 : x = d
      · have hq : decide (x = d) = true := decide_eq_true hq0
        have HE : Hid (idxI (fun y => decide (x = y)) l = k) := idxI_hit HA.out HD.out hq
        clear hq
        subst hq0
        go_wp2_with fail
        go_ret
        exact ⟨by rw [HE.out]; rfl, rfl⟩
      · have hq : decide (x = d) = false := decide_eq_false hq0
        have hqb : (x.toList == d.toList) = false := by rw [bytes_beq]; exact hq
        have HS : Hid (∀ j y, j < k + 1 → l[j]? = some y → decide (x = y) = false) := miss_step HA.out HD.out hq
        go_wp2_with fail
        go_round
        case rel => exact ⟨k + 1, by omega, by go_num, HS⟩
        case measure => simp [intOf]; omega
    · have hkl : k = l.length := by omega
      subst hkl
      have HE : Hid (idxI (fun y => decide (x = y)) l = -1) := idxI_miss HA.out
      clear hv
      go_wp2_with fail
      go_ret
      exact ⟨by rw [HE.out]; rfl, rfl⟩
theorem containsStr_any (l : List ByteArray) (x : ByteArray) (v : Value) (w : World) (hv : Sl strL w v l) :
    Calls Tryd.prog 82 #[v, .string x] w fun e w' => e = .returned (.bool (l.any fun y => decide (x = y))) ∧ w = w' := by
  have h1 := indexStr_any l x v w hv
  have h2 := idxI_any (fun y => decide (x = y)) l
  have H2 := Lib.hid h2
  clear h2 hv
  go_enter Tryd.func82, Tryd.ntmps82
  go_wp2_with (go_at_call 101; refine h1.mono ?_; rintro e w' ⟨rfl, rfl⟩)
  go_ret
  exact ⟨ret_bool H2.out, rfl⟩


/-! ### kind.Find -/
def kndV (_ : World) (d : Knd) (u : Value) : Prop := ∃ a b n c m e, u = .agg #[.string d.name, .slice a n c, .slice b m e]
set_option maxHeartbeats 400000 in
theorem idx_knds (g : Nat) (caps : Array Value) (eg : ∀ args w, (callFunc g args).run Tryd.prog w = .ok (.enter g args) w) (p : Knd → Bool) (l : List (Knd)) (v : Value) (w : World) (hv : Sl kndL w v l)
    (hp : PredB Tryd.prog g caps kndV p w) :
    Calls Tryd.prog 88 #[v, .func (.func g) #[] caps] w fun e w' => e = .returned (.int .i64 (idxI p l)) ∧ Below w.heap.size w w' := by
  obtain ⟨A, c, rfl, hlc, hcm⟩ := hv.form
  unfold maxLen at hcm
  go_enter Tryd.func88, Tryd.ntmps88
  go_wp2_with fail
  go_loopw [8] (fun i wr => ∃ k : Nat, k ≤ l.length ∧ i = .int .i64 k ∧ Below w.heap.size w wr ∧ Hid (∀ j x, j < k → l[j]? = some x → p x = false)) (fun i _ => l.length - (intOf i).toNat)
  case atStart => exact ⟨0, Nat.zero_le _, rfl, Below.refl _ _, fun j x hj => absurd hj (Nat.not_lt_zero _)⟩
  case round =>
    obtain ⟨k, hk, rfl, hb, HA⟩ := hrel
    by_cases hlt : k < l.length
    · obtain ⟨d, hd⟩ : ∃ d, l[k]? = some d := ⟨_, List.getElem?_eq_getElem hlt⟩
      obtain ⟨b, o, rfl, u, x, h1, h2, h3, c0, c1, c2⟩ := knd_at (hv.below hb) hd
      obtain ⟨A1, q1, rfl, _, _⟩ := h2.form
      obtain ⟨A2, q2, rfl, _, _⟩ := h3.form
      have hcall := hp d (.agg #[.string d.name, .slice A1 d.ofs.length q1, .slice A2 d.fields.length q2]) wr hb ⟨A1, A2, _, q1, _, q2, rfl⟩
      clear h2 h3
      have HD : Hid (l[k]? = some d) := hd
      clear hd hp hv
      cases hq : p d with
      | true =>
        rw [hq] at hcall
        have HQ : Hid (p d = true) := hq
        clear hq
        go_wp2_with (go_at_fn g; refine hcall.mono ?_; rintro e w' ⟨rfl, hb2⟩)
        go_ret
        exact ⟨ret_int (idxI_hit HA.out HD.out HQ.out).symm, hb.trans (hb2.mono hb.size)⟩
      | false =>
        rw [hq] at hcall
        have HQ : Hid (p d = false) := hq
        clear hq
        go_wp2_with (go_at_fn g; refine hcall.mono ?_; rintro e w' ⟨rfl, hb2⟩)
        go_roundw
        case rel => exact ⟨k + 1, by omega, by go_num, hb.trans (hb2.mono hb.size), miss_step HA.out HD.out HQ.out⟩
        case measure => simp [intOf]; omega
    · have hkl : k = l.length := by omega
      subst hkl
      clear hp hv
      go_wp2_with fail
      go_ret
      exact ⟨ret_int (idxI_miss HA.out).symm, hb⟩
theorem kFind1_any (d : Knd) (name : ByteArray) (u : Value) (bk : Nat) (w : World) (hu : kndV w d u) (hc : w.cell? ⟨bk, 0, none⟩ = some (.string name)) :
    Calls Tryd.prog 89 #[u, .pointer (some ⟨bk, 0, none⟩)] w fun e w' => e = .returned (.bool (decide (d.name = name))) ∧ Below w.heap.size w w' := by
  obtain ⟨a, b, n, c, m, e, rfl⟩ := hu
  have hlt := World.block_lt_of_cell? _ _ hc
  by_cases hq : d.name = name
  · have hd : decide (d.name = name) = true := decide_eq_true hq
    rw [hd]
    have hqb : (d.name.toList == name.toList) = true := by rw [bytes_beq]; exact hd
    clear hq hd
    go_enter Tryd.func89, Tryd.ntmps89
    go_wp2_with fail
    go_ret
    exact ⟨rfl, (Below.refl _ _).alloc (Nat.le_refl _) _⟩
  · have hd : decide (d.name = name) = false := decide_eq_false hq
    rw [hd]
    have hqb : (d.name.toList == name.toList) = false := by rw [bytes_beq]; exact hd
    clear hq hd
    go_enter Tryd.func89, Tryd.ntmps89
    go_wp2_with fail
    go_ret
    exact ⟨rfl, (Below.refl _ _).alloc (Nat.le_refl _) _⟩
/-- Where a kind of a name is. -/
def kFind (l : List Knd) (name : ByteArray) : Int := idxI (fun k => decide (k.name = name)) l
theorem kFind_any (l : List Knd) (name : ByteArray) (v : Value) (w : World) (hv : Sl kndL w v l) :
    Calls Tryd.prog 68 #[v, .string name] w fun e w' => e = .returned (.int .i64 (kFind l name)) ∧ Below w.heap.size w w' := by
  have hb0 : Below w.heap.size w (w.alloc (.cells #[.string name] 9)) := (Below.refl _ _).alloc (Nat.le_refl _) _
  have h1 := idx_knds 89 #[.pointer (some ⟨w.heap.size, 0, none⟩)] (by intro args w; kernel_rfl) (fun k => decide (k.name = name)) l v _ (hv.below hb0)
    (fun d u wx hx hu => kFind1_any d name u w.heap.size wx hu (cell_below hx (by rw [World.cell?_alloc_at _ _ _ _ rfl]; rfl)))
  obtain ⟨A, c, rfl, _, _⟩ := hv.form
  clear hv
  go_enter Tryd.func68, Tryd.ntmps68
  go_wp2_with fail
  refine h1.mono ?_
  rintro e w2 ⟨rfl, hb2⟩
  go_wp2_with fail
  go_ret
  exact ⟨rfl, hb0.trans (hb2.mono (by simp))⟩
open Go Go.RowKit

theorem bytes_eq (a b : ByteArray) : (a.toList = b.toList) = (a = b) := by
  have := bytes_beq a b
  apply propext
  constructor
  · intro h; rw [h] at this; simpa using this.symm
  · intro h; rw [h]
theorem fld_guard (op : BinOp) (a b : Operand) (xs ys : Array Value) (w : World) : (eqGuard op 59 a b (.agg xs) (.agg ys)).run Tryd.prog w = .ok () w := run_eqGuard_agg w op 59 a b xs ys (by kernel_rfl)
theorem fld_same (d : Nat) (x y : Fld) (w : World) : (Op.equalIn (d + 2) 59 (.agg #[.string x.name, .int .i64 x.ty, .bool x.must, .bool x.key]) (.agg #[.string y.name, .int .i64 y.ty, .bool y.must, .bool y.key])).run Tryd.prog w = .ok (decide (x = y)) w := by
  have hS : Tryd.prog.underlying 59 = some (.struct (Tryd.prog.fieldsOf 59)) := by kernel_rfl
  have hp : Tryd.prog.stoodInHeld 59 = false := by kernel_rfl
  have e1 := Tryd.underlying9
  have e2 := Tryd.underlying3
  have e3 := Tryd.underlying4
  rw [run_equalIn_agg w (d + 1) 59 _ _ hS hp]
  simp only [Program.fieldsOf, Tryd.underlying59]
  go_simp
  simp only [bytes_eq]
  cases x; cases y
  simp only [Fld.mk.injEq]
  rename_i a b c d a' b' c' d'
  by_cases h1 : a = a' <;> by_cases h2 : b = b' <;> by_cases h3 : c = c' <;> by_cases h4 : d = d' <;> simp [h1, h2, h3, h4]
theorem fld_neq (x y : Fld) (w : World) : (binOp .neq 59 (.agg #[.string x.name, .int .i64 x.ty, .bool x.must, .bool x.key]) (.agg #[.string y.name, .int .i64 y.ty, .bool y.must, .bool y.key])).run Tryd.prog w = .ok (.bool (!decide (x = y))) w := by
  rw [run_neq_struct, show (10000 : Nat) = 9998 + 2 from rfl, fld_same]; rfl
open Go

def bs (l : List UInt8) : ByteArray := ⟨l.toArray⟩
theorem bs_list (l : List UInt8) : (bs l).data.toList = l := by simp [bs]
theorem bs_size (l : List UInt8) : (bs l).size = l.length := by simp [bs, ByteArray.size]
theorem bs_of (s : ByteArray) : bs s.data.toList = s := by cases s; simp [bs]
theorem bs_append (a b : List UInt8) : bs a ++ bs b = bs (a ++ b) := by
  apply ByteArray.ext
  simp [bs]
/-- At most seven digits. -/
theorem itoa_small {n : Int} (h1 : -1000000 ≤ n) (h2 : n ≤ 1000000) : (Lib.trimPrefix (Lib.itoa n) [45]).length ≤ 9 ∧ (Lib.itoa n).length ≤ 10 := by
  have hd : ∀ u, u ≤ 1000000 → (Lib.decDigits u).length ≤ 7 := fun u hu => by
    rw [Lib.decDigits_length]
    rcases Nat.lt_or_ge (Lib.nDigits u) 8 with h | h
    · omega
    · have e : Lib.nDigits u ≤ 7 := by
        by_cases h7 : u < 10 ^ 6
        · by_cases h0 : u < 10
          · rw [Lib.nDigits_small h0]; omega
          · rcases Nat.lt_or_ge u (10 ^ 2) with a | a
            · rw [Lib.nDigits_unique 1 u (by omega) a]; omega
            · rcases Nat.lt_or_ge u (10 ^ 3) with a2 | a2
              · rw [Lib.nDigits_unique 2 u a a2]; omega
              · rcases Nat.lt_or_ge u (10 ^ 4) with a3 | a3
                · rw [Lib.nDigits_unique 3 u a2 a3]; omega
                · rcases Nat.lt_or_ge u (10 ^ 5) with a4 | a4
                  · rw [Lib.nDigits_unique 4 u a3 a4]; omega
                  · rw [Lib.nDigits_unique 5 u a4 h7]; omega
        · rw [Lib.nDigits_unique 6 u (by omega) (by have : (10 : Nat) ^ 7 = 10000000 := by decide
                                                    omega)]; omega
      omega
  rcases itoa_cases n with ⟨u, hu, e⟩ | ⟨u, _, hu, e⟩
  · have := hd u (by omega)
    rw [e, digits_trim]; exact ⟨by omega, by omega⟩
  · have := hd u (by omega)
    rw [e, minus_trim]; exact ⟨by omega, by simp; omega⟩
open Go Go.RowKit Go.Sort
section
variable {P : Program} {ops : Array Oper} {md : Region.Mode} {C : World → Prop}

def wpAnyLQ (P : Program) (md : Region.Mode) (ops : Array Oper) (C : World → Prop) (n : Nat) (L : Array Bool → Act → Prop) : Nat → Array Bool → Act → Prop
  | 0, listed, a => L listed a
  | f + 1, listed, a =>
    Region.ready md ops listed ≠ [] ∧ ∀ i ∈ Region.ready md ops listed, i < n ∧ qOp P ops C i (wpAnyLQ P md ops C n L f (listed.setIfInBounds i true)) a

theorem wpAny_of_headQ {n g : Nat} {L : Array Bool → Act → Prop} {Q' : Exit → Act → World → Prop} (hL : ∀ listed a w, C w → L listed a → wpAny P md ops Q' g listed a w) :
    ∀ (f : Nat) (listed : Array Bool) (a : Act) (w : World), C w → wpAnyLQ P md ops C n L f listed a → wpAny P md ops Q' (f + g) listed a w
  | 0, listed, a, w, hw, h => by rw [Nat.zero_add]; exact hL _ _ _ hw h
  | f + 1, listed, a, w, hw, h => by
    rw [show f + 1 + g = (f + g) + 1 by omega]
    exact ⟨fun h0 => absurd h0 h.1, fun i hi => wpOp_of_qOp hw (fun a' w' hw' h' => wpAny_of_headQ hL f _ a' w' hw' h') (h.2 i hi).2⟩

end
end Go.Proofs.YtgioaphnadncfaaDoor
