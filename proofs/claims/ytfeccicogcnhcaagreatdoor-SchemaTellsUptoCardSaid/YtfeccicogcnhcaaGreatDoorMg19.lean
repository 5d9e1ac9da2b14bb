/- Parts: SgA. -/
import Derived.Test.YtfeccicogcnhcaaGreatDoorMg14
import Derived.Test.YtfeccicogcnhcaaGreatDoorMg15
import Derived.Test.YtfeccicogcnhcaaGreatDoorMg18
import Derived.Deep.DeepCutAuto
import Derived.Deep.CutBlock
import Derived.Deep.Light
/- Contract of the reference: kinref1.ReadSchema: a text as a schema. Condition: the text is not too long. -/
namespace Go.Proofs.YtfeccicogcnhcaaGreatDoor
open Go Go.RowKit



theorem knd_info3 : (Tryz.prog.info? 59).map (fun i => (i.zero, i.size, i.bytes)) = some (some (.agg #[.string .empty, .slice none 0 0, .slice none 0 0]), 3, 64) := by kernel_rfl
theorem bnd_info5 : (Tryz.prog.info? 40).map (fun i => (i.zero, i.size, i.bytes)) = some (some (.agg #[.string .empty, .string .empty, .string .empty, .int .i64 0, .int .i64 0]), 5, 64) := by kernel_rfl
/-- How a line ends: it is right, and the schema has it; or it is wrong, and the result is told. -/
def SgEnd (w : World) (s : ByteArray) (P : List (List UInt8)) (L : Nat) (A : Value) (k : Nat) (b : Bool) (wx : World) : Prop :=
  (b = false → (readSN s.data.toList = k ∧ readSE s.data.toList = 2 ∧ readSV s.data.toList = ⟨[], []⟩) ∧ Below w.heap.size w wx ∧ wx.heap[w.heap.size]? = some (.cells #[.slice none 0 0, .slice none 0 0] 25 (0, 0))) ∧
  (b = true → Own wx w.heap.size 9 1 A (L + 1) (wv P) ∧ ∃ g An At cn ct xs, Sg w P g An At cn ct xs (k + 1) wx)
theorem sgEnd_bad {w : World} {s : ByteArray} {P : List (List UInt8)} {L : Nat} {A : Value} {k : Nat} {wx : World} (h : readSN s.data.toList = k ∧ readSE s.data.toList = 2 ∧ readSV s.data.toList = ⟨[], []⟩) (hb : Below w.heap.size w wx) (hz : wx.heap[w.heap.size]? = some (.cells #[.slice none 0 0, .slice none 0 0] 25 (0, 0))) : SgEnd w s P L A k false wx :=
  ⟨fun _ => ⟨h, hb, hz⟩, (fun h => by cases h)⟩
/-- A line of the reference, by its words. -/
theorem lineS_words {g : Scm} {x : List UInt8} {P : List (List UInt8)} (h : Lib.split x [32] = P) : lineS g (x ++ [10]) = if P.head? = some kindW ∧ g.bonds.length = 0 then (readKndL P).map fun k => ⟨g.kinds ++ [k], g.bonds⟩ else if P.head? = some bondW then (readBndL P).map fun b => ⟨g.kinds, g.bonds ++ [b]⟩ else none := by
  obtain ⟨h1, h2⟩ := suffix_line x
  rw [lineS_eq h1 (P := P) (by rw [h2]; exact h), if_pos rfl]
theorem up_alloc {W : World} {o o' : Obj} {k : Nat} (h : W.heap[k]? = some o) : (W.alloc o').heap[k]? = some o :=
  (((Below.refl W.heap.size W).alloc (Nat.le_refl _) o').block _ (Array.getElem?_eq_some_iff.1 h).1).trans h
theorem bnd_final {P : List (List UInt8)} {a b c e : List UInt8} {nd ne : Option Nat} (hD : readBndL P = if wordB a = true ∧ wordB b = true ∧ wordB c = true then bndOf a b c e nd ne else none) (n mx : Int) (hn : ∀ u, nd = some u → n = (u : Int)) (hm1 : e = anyW → mx = -1) (hm2 : ¬ e = anyW → ∀ u, ne = some u → mx = (u : Int)) :
    ((wordB a && wordB b && wordB c && nd.isSome && (decide (e = anyW) || ne.isSome)) = true → readBndL P = some ⟨bs a, bs b, bs c, n, mx⟩) ∧ ((wordB a && wordB b && wordB c && nd.isSome && (decide (e = anyW) || ne.isSome)) = false → readBndL P = none) := by
  rw [hD]
  cases ha : wordB a with
  | false => exact ⟨fun h => by simp at h, fun _ => if_neg (fun h => by cases h.1)⟩
  | true =>
  cases hb : wordB b with
  | false => exact ⟨fun h => by simp at h, fun _ => if_neg (fun h => by cases h.2.1)⟩
  | true =>
  cases hc : wordB c with
  | false => exact ⟨fun h => by simp at h, fun _ => if_neg (fun h => by cases h.2.2)⟩
  | true =>
  rw [if_pos ⟨rfl, rfl, rfl⟩]
  cases nd with
  | none => exact ⟨fun h => by simp at h, fun _ => rfl⟩
  | some u =>
    rw [hn u rfl]
    by_cases he : e = anyW
    · rw [hm1 he, decide_eq_true he]
      refine ⟨fun _ => ?_, fun h => by simp at h⟩
      show (if e = anyW then _ else _) = _
      rw [if_pos he]
    · rw [decide_eq_false he]
      cases ne with
      | none =>
        refine ⟨fun h => by simp at h, fun _ => ?_⟩
        show (if e = anyW then _ else _) = _
        rw [if_neg he]
      | some v =>
        rw [hm2 he v rfl]
        refine ⟨fun _ => ?_, fun h => by simp at h⟩
        show (if e = anyW then _ else _) = _
        rw [if_neg he]
theorem num_nat {l : List UInt8} {n : Nat} (h1 : ∀ u, numL l 2 = some u → n = u) (h0 : numL l 2 = none → n = 0) : I64 (n : Int) := by
  cases h : numL l 2 with
  | none => rw [h0 h]; exact ⟨by decide, by decide⟩
  | some u => rw [h1 u h]; exact num_i64 (by omega) h
set_option maxRecDepth 100000 in
set_option maxHeartbeats 32000000 in
theorem rreadSchema_any (s : ByteArray) (hs : Sm s) (w : World) :
    Calls Tryz.prog 9 #[.string s] w fun e w' => ∃ vn vt, e = .returned (.tuple #[.agg #[vn, vt], .int .i64 (readSN s.data.toList : Nat), .int .i64 (readSE s.data.toList)]) ∧ ScmR w' vn vt (readSV s.data.toList) ∧ Below w.heap.size w w' := by
  obtain ⟨i0, ei, ez, ez1, ez2⟩ := info_parts knd_info3
  obtain ⟨j0, fi, fz, fz1, fz2⟩ := info_parts bnd_info5
  obtain ⟨n0, ni, nz, nz1, nz2⟩ := info_parts fldK_info
  obtain ⟨WA, hWA⟩ : ∃ x, x = w.alloc (.cells #[.slice none 0 0, .slice none 0 0] 25) := ⟨_, rfl⟩
  obtain ⟨WB, hWB⟩ : ∃ x, x = WA.alloc (.cells #[.string ⟨#[]⟩, .string ⟨#[105, 110, 116]⟩, .string ⟨#[98, 111, 111, 108]⟩, .string ⟨#[116, 101, 120, 116]⟩] 9) := ⟨_, rfl⟩
  obtain ⟨W0, hW0⟩ : ∃ x, x = WB.alloc (.cells #[.slice none 0 0, .slice none 0 0] 25) := ⟨_, rfl⟩
  have hsA : WA.heap.size = w.heap.size + 1 := by rw [hWA]; simp
  have hsB : WB.heap.size = w.heap.size + 1 + 1 := by rw [hWB]; simp [hsA]
  have hb0 : Below w.heap.size w W0 := by
    rw [hW0, hWB, hWA]
    exact (((Below.refl _ _).alloc (Nat.le_refl _) _).alloc (by simp) _).alloc (by simp; omega) _
  have qA : WA.heap[w.heap.size]? = some (.cells #[.slice none 0 0, .slice none 0 0] 25 (0, 0)) := by rw [hWA]; exact heap_alloc_new _ _
  have qB : WB.heap[w.heap.size + 1]? = some (.cells typCells 9 (0, 0)) := by rw [hWB, ← hsA]; exact heap_alloc_new _ _
  have q0 : W0.heap[w.heap.size]? = some (.cells #[.slice none 0 0, .slice none 0 0] 25 (0, 0)) := by rw [hW0]; refine up_alloc ?_; rw [hWB]; exact up_alloc qA
  have q1 : W0.heap[w.heap.size + 1]? = some (.cells typCells 9 (0, 0)) := by rw [hW0]; exact up_alloc qB
  have q2 : W0.heap[w.heap.size + 1 + 1]? = some (.cells #[.slice none 0 0, .slice none 0 0] 25 (0, 0)) := by rw [hW0, ← hsB]; exact heap_alloc_new _ _
  have hx := rcut_any s 10 (by decide) false W0 hs
  rw [rcut_plain (by decide)] at hx
  obtain ⟨R1, R2⟩ := read_srun s.data.toList
  have HR1 := Lib.hid R1
  have HR2 := Lib.hid R2
  have hle := len_size s
  unfold Sm at hs
  obtain ⟨s1, s2⟩ := split_len 10 _ s.data.toList (Nat.le_refl _)
  have HPL : Hid (∀ x ∈ Lib.split s.data.toList [10], x.length ≤ 1048576) := fun x hx => by have := s1 x hx; omega
  have hPn := split_ne 10 s.data.toList
  generalize Lib.split s.data.toList [10] = P at *
  obtain ⟨L, hL⟩ : ∃ L, P.length = L + 1 := ⟨P.length - 1, by
    have : P.length ≠ 0 := fun h => hPn (List.length_eq_zero_iff.1 h)
    omega⟩
  have hLb : L ≤ 1048577 := by omega
  have HL := Lib.hid hL
  clear R1 R2 hle s1 s2 hPn qA qB
  rw [show (Value.int .u8 ((10 : UInt8).toNat : Int)) = .int .u8 10 from rfl] at hx
  have hW0' := Lib.hid hW0
  have hWB' := Lib.hid hWB
  have hWA' := Lib.hid hWA
  have HSB := Lib.hid (And.intro hsA hsB)
  clear hW0 hWB hWA hsA hsB
  go_enter Tryz.func9, Tryz.ntmps9
  go_upto_region 3 with fail
  rw [← hWA'.out, ← hWB'.out, ← hW0'.out]
  clear hW0' hWB' hWA' HSB
  go_wp2_with fail
  refine hx.mono ?_
  clear hx
  rintro e w1 ⟨A1, c1, rfl, how, hb1⟩
  have HOWN := Lib.hid (how.mono hb0.size)
  have HSG : Hid (Sg w P ⟨[], []⟩ none none 0 0 [] 0 w1) := by
    refine Sg.below (W := W0) ⟨q0, q1, q2, Own.nil _ _ _ _, rfl, Own.nil _ _ _ _, fun _ h => by (cases h), by rw [List.drop_zero], by simp, hb0⟩ hb1
  clear how q0 q1 q2 hb0 hb1
  rw [hL]
  rw [hL] at HOWN
  clear hL
  go_wp2_with fail
  -- a loop: the mask [.k, .k, .k, .y 3, .y 4, .k, .k, .k, .k, .a, .y 10, .y 11, .y 12, .y 13, .y 14, .y 15, .y 16, .y 17, .y 18, .y 19, .y 20, .y 21, .y 22, .y 23, .y 24, .y 25, .y 26, .y 27, .k, .k, .k, .k, .k, .k, .k, .y 35, .y 36, .y 37, .y 38, .y 39, .y 40, .y 41, .y 42, .y 43, .y 44, .y 45, .y 46, .y 47, .y 48, .y 49, .y 50, .y 51, .y 52, .y 53, .y 54, .y 55, .y 56, .y 57, .y 58, .y 59, .y 60, .y 61, .y 62, .y 63, .y 64, .y 65, .y 66, .y 67, .y 68, .y 69, .y 70, .y 71, .y 72, .y 73, .y 74, .y 75, .y 76, .y 77, .y 78, .y 79, .y 80, .y 81, .y 82, .y 83, .y 84, .y 85, .y 86, .y 87, .y 88, .y 89, .y 90, .y 91, .y 92, .y 93, .y 94, .y 95, .y 96, .y 97, .y 98, .y 99, .y 100, .y 101, .y 102, .y 103, .y 104, .y 105, .y 106, .y 107, .y 108, .y 109, .y 110, .y 111, .y 112, .y 113, .y 114, .y 115, .y 116, .y 117, .y 118, .y 119, .y 120, .y 121, .y 122, .y 123, .y 124, .y 125, .y 126, .y 127, .y 128, .y 129, .y 130, .y 131, .y 132, .y 133, .y 134, .y 135, .y 136, .y 137, .y 138, .y 139, .y 140, .y 141, .y 142, .y 143, .y 144, .y 145, .y 146, .y 147, .y 148, .y 149, .y 150, .y 151, .y 152, .y 153, .y 154, .y 155, .y 156, .y 157, .y 158, .y 159, .y 160, .y 161, .y 162, .y 163, .y 164, .y 165, .y 166, .y 167, .y 168, .y 169, .y 170, .y 171, .y 172, .y 173, .y 174, .y 175, .y 176, .y 177, .y 178, .y 179, .y 180, .y 181, .y 182, .y 183, .y 184, .y 185, .y 186, .y 187, .y 188, .y 189, .y 190, .y 191, .y 192, .y 193, .y 194, .y 195, .y 196, .y 197, .y 198, .y 199, .y 200, .y 201, .y 202, .y 203, .y 204, .y 205, .y 206, .y 207, .y 208, .y 209, .y 210, .y 211, .y 212, .y 213, .y 214, .y 215, .y 216, .y 217, .y 218, .y 219, .y 220, .y 221, .y 222, .y 223, .y 224, .y 225, .y 226, .y 227, .y 228, .y 229, .y 230, .y 231, .y 232, .y 233, .y 234, .y 235, .y 236, .y 237, .y 238, .y 239, .y 240, .y 241, .y 242, .y 243, .y 244, .y 245, .y 246, .y 247, .y 248, .y 249, .y 250, .y 251, .y 252, .y 253, .y 254, .y 255, .y 256, .y 257, .y 258, .y 259, .y 260, .y 261, .y 262, .y 263, .y 264, .y 265, .y 266, .k, .k, .k, .k, .k, .k, .k, .k, .k, .k, .k, .k, .k, .k], the slots 9 0 0 0, the relation fun i _ _ _ wr => ∃ (k : Nat) (g : Scm) (An At : Option Addr) (cn ct : Nat) (xs : List Value), k ≤ L ∧ i = .int .i64 k ∧ Hid (Own wr w.heap.size 9 1 (.slice A1 (L + 1) c1) (L + 1) (wv P)) ∧ Hid (Sg w P g An At cn ct xs k wr), the measure fun i _ _ _ _ => L - (intOf i).toNat
  apply wp_loopm [.k, .k, .k, .y 3, .y 4, .k, .k, .k, .k, .a, .y 10, .y 11, .y 12, .y 13, .y 14, .y 15, .y 16, .y 17, .y 18, .y 19, .y 20, .y 21, .y 22, .y 23, .y 24, .y 25, .y 26, .y 27, .k, .k, .k, .k, .k, .k, .k, .y 35, .y 36, .y 37, .y 38, .y 39, .y 40, .y 41, .y 42, .y 43, .y 44, .y 45, .y 46, .y 47, .y 48, .y 49, .y 50, .y 51, .y 52, .y 53, .y 54, .y 55, .y 56, .y 57, .y 58, .y 59, .y 60, .y 61, .y 62, .y 63, .y 64, .y 65, .y 66, .y 67, .y 68, .y 69, .y 70, .y 71, .y 72, .y 73, .y 74, .y 75, .y 76, .y 77, .y 78, .y 79, .y 80, .y 81, .y 82, .y 83, .y 84, .y 85, .y 86, .y 87, .y 88, .y 89, .y 90, .y 91, .y 92, .y 93, .y 94, .y 95, .y 96, .y 97, .y 98, .y 99, .y 100, .y 101, .y 102, .y 103, .y 104, .y 105, .y 106, .y 107, .y 108, .y 109, .y 110, .y 111, .y 112, .y 113, .y 114, .y 115, .y 116, .y 117, .y 118, .y 119, .y 120, .y 121, .y 122, .y 123, .y 124, .y 125, .y 126, .y 127, .y 128, .y 129, .y 130, .y 131, .y 132, .y 133, .y 134, .y 135, .y 136, .y 137, .y 138, .y 139, .y 140, .y 141, .y 142, .y 143, .y 144, .y 145, .y 146, .y 147, .y 148, .y 149, .y 150, .y 151, .y 152, .y 153, .y 154, .y 155, .y 156, .y 157, .y 158, .y 159, .y 160, .y 161, .y 162, .y 163, .y 164, .y 165, .y 166, .y 167, .y 168, .y 169, .y 170, .y 171, .y 172, .y 173, .y 174, .y 175, .y 176, .y 177, .y 178, .y 179, .y 180, .y 181, .y 182, .y 183, .y 184, .y 185, .y 186, .y 187, .y 188, .y 189, .y 190, .y 191, .y 192, .y 193, .y 194, .y 195, .y 196, .y 197, .y 198, .y 199, .y 200, .y 201, .y 202, .y 203, .y 204, .y 205, .y 206, .y 207, .y 208, .y 209, .y 210, .y 211, .y 212, .y 213, .y 214, .y 215, .y 216, .y 217, .y 218, .y 219, .y 220, .y 221, .y 222, .y 223, .y 224, .y 225, .y 226, .y 227, .y 228, .y 229, .y 230, .y 231, .y 232, .y 233, .y 234, .y 235, .y 236, .y 237, .y 238, .y 239, .y 240, .y 241, .y 242, .y 243, .y 244, .y 245, .y 246, .y 247, .y 248, .y 249, .y 250, .y 251, .y 252, .y 253, .y 254, .y 255, .y 256, .y 257, .y 258, .y 259, .y 260, .y 261, .y 262, .y 263, .y 264, .y 265, .y 266, .k, .k, .k, .k, .k, .k, .k, .k, .k, .k, .k, .k, .k, .k] 9 0 0 0 (by decide +kernel) rfl (fun i _ _ _ wr => ∃ (k : Nat) (g : Scm) (An At : Option Addr) (cn ct : Nat) (xs : List Value), k ≤ L ∧ i = .int .i64 k ∧ Hid (Own wr w.heap.size 9 1 (.slice A1 (L + 1) c1) (L + 1) (wv P)) ∧ Hid (Sg w P g An At cn ct xs k wr)) (fun i _ _ _ _ => L - (intOf i).toNat) _ _ _ _ rfl rfl rfl rfl
  case start => exact ⟨0, ⟨[], []⟩, none, none, 0, 0, [], Nat.zero_le _, rfl, HOWN, HSG⟩
  case round =>
    -- a round: the names u9 _ _ _ (four), the world's name
    intro ff u9 _ _ _ wr hrel
    dsimp only [spread]
    clear HSG HOWN
    obtain ⟨k, g, An, At, cn, ct, xs, hk, rfl, HOWN, HSG⟩ := hrel
    obtain ⟨wo, hwo⟩ : ∃ x : World, x = wr := ⟨_, rfl⟩
    subst hwo
    have hln := HSG.out.len
    by_cases hlt : k < L
    · obtain ⟨x, hx⟩ : ∃ x, P[k]? = some x := ⟨_, List.getElem?_eq_getElem (by have := HL.out; omega)⟩
      have hlt' : (k : Int) < (L : Int) := by omega
      have hlt2 : (k : Int) < (L : Int) + 1 := by omega
      have hsl := own_words (w := wo) (B := w.heap.size) (v := .slice A1 (L + 1) c1) (xs := P) (by rw [HL.out]; exact HOWN.out) HPL.out
      obtain ⟨gb, o, rfl, hxs, c0⟩ := str_at hsl (d := bs x) (by rw [List.getElem?_map, hx]; rfl)
      clear hsl
      have hcall := rcut_any (bs x) 32 (by decide) false wo hxs
      rw [rcut_plain (by decide), bs_list, show (Value.int .u8 ((32 : UInt8).toNat : Int)) = .int .u8 32 from rfl] at hcall
      obtain ⟨m1, m2⟩ := srun_more (g := g) (n := k) hx (by have := HL.out; omega)
      have HM1 : Hid (lineS g (x ++ [10]) = none → srun ⟨[], []⟩ 0 P = .error k) := fun h => by rw [HSG.out.run]; exact m1 h
      have HM2 : Hid (∀ g', lineS g (x ++ [10]) = some g' → srun ⟨[], []⟩ 0 P = srun g' (k + 1) (P.drop (k + 1))) := fun g' h => by rw [HSG.out.run]; exact m2 g' h
      have hxl : x.length ≤ 1048576 := HPL.out x (List.mem_of_getElem? hx)
      obtain ⟨u1, u2⟩ := split_len 32 _ x (Nat.le_refl _)
      obtain ⟨P2, hP2⟩ : ∃ P2, Lib.split x [32] = P2 := ⟨_, rfl⟩
      have HLT := Lib.hid (lineS_words (g := g) hP2)
      have hP2n := split_ne 32 x
      rw [hP2] at hcall u1 u2 hP2n
      have HPL2 : Hid (∀ y ∈ P2, y.length ≤ 1048576) := fun y hy => by have := u1 y hy; omega
      have hpl2 : P2.length ≤ 1048577 := by omega
      obtain ⟨K, T, hKT⟩ : ∃ K T, P2 = K :: T := by
        cases P2 with
        | nil => exact absurd rfl hP2n
        | cons a b => exact ⟨a, b, rfl⟩
      have HKT := Lib.hid hKT
      have HHD : Hid (P2.head? = some K) := by rw [hKT]; rfl
      have hp0 : (0 : Int) < (P2.length : Int) := by rw [hKT, List.length_cons]; omega
      have e1 : (bs kindW).toList = [107, 105, 110, 100] := by decide +kernel
      have e2 : (bs bondW).toList = [98, 111, 110, 100] := by decide +kernel
      have N1 := Lib.hid (bs_lit (K := K) e1)
      have N2 := Lib.hid (bs_lit (K := K) e2)
      clear m1 m2 u1 u2 hx hxs e1 e2 hxl hP2 hP2n hKT
      go_wp2_with fail
      refine hcall.mono ?_
      clear hcall c0
      rintro e w2 ⟨A3, c3, rfl, how2, hb2⟩
      have HSG := Lib.hid (HSG.out.below hb2)
      have HOWN := Lib.hid (HOWN.out.below hb2)
      have HSW := Lib.hid (own_words how2 HPL2.out)
      clear hb2 how2
      obtain ⟨gw, ow, hA, _, d0⟩ := str_at (k := 0) (n := P2.length) (c := c3) HSW.out (d := bs K) (by rw [HKT.out]; rfl)
      subst hA
      rw [Nat.add_zero] at d0
      have G1 := Lib.hid (block_cell HSG.out.sb 1)
      go_upto_region 10 with fail
      -- a cut: the mask [.k, .k, .k, .k, .k, .k, .k, .k, .k, .k, .k, .k, .k, .k, .k, .k, .k, .k, .k, .k, .k, .k, .k, .k, .k, .k, .k, .k, .k, .k, .k, .k, .k, .k, .k, .k, .k, .k, .k, .k, .k, .k, .k, .k, .k, .y 45, .y 46, .y 47, .y 48, .y 49, .y 50, .y 51, .y 52, .y 53, .y 54, .y 55, .y 56, .y 57, .y 58, .y 59, .y 60, .y 61, .y 62, .y 63, .y 64, .a, .k, .k, .k, .k, .k, .k, .k, .k, .k, .k, .k, .k, .k, .k, .k, .k, .k, .k, .k, .k, .k, .k, .k, .k, .k, .k, .k, .k, .k, .k, .k, .k, .k, .k, .k, .k, .k, .k, .k, .k, .k, .k, .k, .k, .k, .k, .k, .k, .k, .k, .k, .k, .k, .k, .k, .k, .k, .k, .k, .k, .k, .k, .k, .k, .k, .k, .k, .k, .k, .k, .k, .k, .k, .k, .k, .k, .k, .k, .k, .k, .k, .k, .k, .k, .k, .k, .k, .k, .k, .k, .k, .k, .k, .k, .k, .k, .k, .k, .k, .k, .k, .k, .k, .k, .k, .k, .k, .k, .k, .k, .k, .k, .k, .k, .k, .k, .k, .k, .k, .k, .k, .k, .k, .k, .k, .k, .k, .k, .k, .k, .k, .k, .k, .k, .k, .k, .k, .k, .k, .k, .k, .k, .k, .k, .k, .k, .k, .k, .k, .k, .k, .k, .k, .k, .k, .k, .k, .k, .k, .k, .k, .k, .k, .k, .k, .k, .k, .k, .k, .k, .k, .k, .k, .k, .k, .k, .k, .k, .k, .k, .k, .k, .k, .k, .k, .k, .k, .k, .k, .k, .k, .k, .k, .k, .k, .k, .k, .k, .k, .k, .k, .k, .k, .k, .k, .k, .k, .k, .k, .k, .k, .k, .k, .k, .k], the slots 65 0 0 0, the relation fun v _ _ _ wx => v = .bool (decide (K = kindW ∧ g.bonds.length = 0 ∧ ∃ a, P2[1]? = some a ∧ wordB a = true)) ∧ Below w2.heap.size w2 wx
      apply wp_cutm [.k, .k, .k, .k, .k, .k, .k, .k, .k, .k, .k, .k, .k, .k, .k, .k, .k, .k, .k, .k, .k, .k, .k, .k, .k, .k, .k, .k, .k, .k, .k, .k, .k, .k, .k, .k, .k, .k, .k, .k, .k, .k, .k, .k, .k, .y 45, .y 46, .y 47, .y 48, .y 49, .y 50, .y 51, .y 52, .y 53, .y 54, .y 55, .y 56, .y 57, .y 58, .y 59, .y 60, .y 61, .y 62, .y 63, .y 64, .a, .k, .k, .k, .k, .k, .k, .k, .k, .k, .k, .k, .k, .k, .k, .k, .k, .k, .k, .k, .k, .k, .k, .k, .k, .k, .k, .k, .k, .k, .k, .k, .k, .k, .k, .k, .k, .k, .k, .k, .k, .k, .k, .k, .k, .k, .k, .k, .k, .k, .k, .k, .k, .k, .k, .k, .k, .k, .k, .k, .k, .k, .k, .k, .k, .k, .k, .k, .k, .k, .k, .k, .k, .k, .k, .k, .k, .k, .k, .k, .k, .k, .k, .k, .k, .k, .k, .k, .k, .k, .k, .k, .k, .k, .k, .k, .k, .k, .k, .k, .k, .k, .k, .k, .k, .k, .k, .k, .k, .k, .k, .k, .k, .k, .k, .k, .k, .k, .k, .k, .k, .k, .k, .k, .k, .k, .k, .k, .k, .k, .k, .k, .k, .k, .k, .k, .k, .k, .k, .k, .k, .k, .k, .k, .k, .k, .k, .k, .k, .k, .k, .k, .k, .k, .k, .k, .k, .k, .k, .k, .k, .k, .k, .k, .k, .k, .k, .k, .k, .k, .k, .k, .k, .k, .k, .k, .k, .k, .k, .k, .k, .k, .k, .k, .k, .k, .k, .k, .k, .k, .k, .k, .k, .k, .k, .k, .k, .k, .k, .k, .k, .k, .k, .k, .k, .k, .k, .k, .k, .k, .k, .k, .k, .k, .k, .k] 65 0 0 0 (by decide +kernel) (fun v _ _ _ wx => v = .bool (decide (K = kindW ∧ g.bonds.length = 0 ∧ ∃ a, P2[1]? = some a ∧ wordB a = true)) ∧ Below w2.heap.size w2 wx)
      case first =>
        -- within a cut
        intro JJ KK hmeet hnext
        -- of what is to be done behind only the innermost is kept
        rename ∀ (a : Act) (w : World), Code.wp _ _ _ a w → _ => hkeep
        revert hkeep
        repeat (rename ∀ (a : Act) (w : World), Code.wp _ _ _ a w → _ => hz; clear hz)
        intro hkeep
        have g1 := G1.out
        by_cases h1 : K = kindW
        case neg =>
          have b1 : ¬ (bs K).toList = [107, 105, 110, 100] := by rw [N1.out]; exact h1
          have b1' : ((bs K).toList == [107, 105, 110, 100]) = false := beq_eq_false_iff_ne.2 b1
          have HD : Hid (decide (K = kindW ∧ g.bonds.length = 0 ∧ ∃ a, P2[1]? = some a ∧ wordB a = true) = false) := decide_eq_false (fun h => h1 h.1)
          clear h1
          go_wp2_with fail
          -- a way's end
          refine Met.intro ?_
          go_step
          refine Forgot.at _ _ _ _ _ rfl rfl rfl rfl rfl rfl ?_
          exact ⟨by rw [HD.out], Below.refl _ _⟩
        have b1 : (bs K).toList = [107, 105, 110, 100] := by rw [N1.out]; exact h1
        have b1' : ((bs K).toList == [107, 105, 110, 100]) = true := by rw [b1]; rfl
        by_cases h0 : g.bonds.length = 0
        case neg =>
          have h0b : ((g.bonds.length : Int) == 0) = false := by rw [beq_eq_false_iff_ne]; omega
          have HD : Hid (decide (K = kindW ∧ g.bonds.length = 0 ∧ ∃ a, P2[1]? = some a ∧ wordB a = true) = false) := decide_eq_false (fun h => h0 h.2.1)
          clear h1 h0
          go_wp2_with fail
          -- a way's end
          refine Met.intro ?_
          go_step
          refine Forgot.at _ _ _ _ _ rfl rfl rfl rfl rfl rfl ?_
          exact ⟨by rw [HD.out], Below.refl _ _⟩
        have h0b : ((g.bonds.length : Int) == 0) = true := by rw [h0]; rfl
        by_cases h2 : 2 ≤ P2.length
        case neg =>
          have h2n : ¬ (2 : Int) ≤ (P2.length : Int) := by omega
          have h2b : decide ((P2.length : Int) ≥ 2) = false := decide_eq_false (by omega)
          have HD : Hid (decide (K = kindW ∧ g.bonds.length = 0 ∧ ∃ a, P2[1]? = some a ∧ wordB a = true) = false) := decide_eq_false (fun h => by
            obtain ⟨a, ha, _⟩ := h.2.2
            have := (List.getElem?_eq_some_iff.1 ha).1
            omega)
          clear h1 h0 h2
          go_wp2_with fail
          -- a way's end
          refine Met.intro ?_
          go_step
          refine Forgot.at _ _ _ _ _ rfl rfl rfl rfl rfl rfl ?_
          exact ⟨by rw [HD.out], Below.refl _ _⟩
        obtain ⟨a, ha⟩ : ∃ a, P2[1]? = some a := ⟨_, List.getElem?_eq_getElem (by omega)⟩
        have h2p : (2 : Int) ≤ (P2.length : Int) := by omega
        have h2q : (1 : Int) < (P2.length : Int) := by omega
        obtain ⟨gw', ow', hA, has, d1⟩ := str_at (k := 1) HSW.out (d := bs a) (by rw [List.getElem?_map, ha]; rfl)
        injection hA with hA
        injection hA with e1 e2
        subst e1
        subst e2
        have hx := rwd_any (bs a) has w2
        rw [bs_list] at hx
        have HD : Hid (decide (K = kindW ∧ g.bonds.length = 0 ∧ ∃ a, P2[1]? = some a ∧ wordB a = true) = wordB a) := by
          unfold Hid
          cases hb : wordB a with
          | true => exact decide_eq_true ⟨h1, h0, a, ha, hb⟩
          | false =>
            refine decide_eq_false (fun h => ?_)
            obtain ⟨a', ha', hw⟩ := h.2.2
            rw [ha] at ha'
            injection ha' with ha'
            subst ha'
            rw [hb] at hw; cases hw
        clear h1 h0 h2 ha has
        go_wp2_with fail
        refine hx.mono ?_
        clear hx
        rintro e w3 ⟨rfl, hb3⟩
        go_wp2_with fail
        -- a way's end
        refine Met.intro ?_
        go_step
        refine Forgot.at _ _ _ _ _ rfl rfl rfl rfl rfl rfl ?_
        exact ⟨by rw [HD.out], hb3⟩
      case rest =>
      -- behind a cut: the names of the slots' values u65 _ _ _ (four)
      intro ff u65 _ _ _ wc hcut
      dsimp only [spread]
      obtain ⟨w3, hw3⟩ : ∃ x : World, x = wc := ⟨_, rfl⟩
      subst hw3
      obtain ⟨rfl, hb3⟩ := hcut
      have HSG := Lib.hid (HSG.out.below hb3)
      have HOWN := Lib.hid (HOWN.out.below hb3)
      have HSW := Lib.hid (HSW.out.below hb3)
      have HK0 := Lib.hid (cell_below hb3 d0)
      clear hb3 d0 G1
      go_upto_if 65 with fail
      -- a cut: the mask [.k, .k, .k, .k, .k, .k, .k, .k, .k, .k, .k, .a, .y 12, .y 13, .y 14, .y 15, .y 16, .y 17, .y 18, .y 19, .y 20, .y 21, .y 22, .y 23, .y 24, .y 25, .y 26, .y 27, .k, .k, .k, .k, .k, .k, .k, .k, .k, .k, .k, .k, .k, .k, .k, .k, .k, .k, .k, .k, .k, .k, .k, .k, .k, .k, .k, .k, .k, .k, .k, .k, .k, .k, .k, .k, .k, .y 65, .y 66, .y 67, .y 68, .y 69, .y 70, .y 71, .y 72, .y 73, .y 74, .y 75, .y 76, .y 77, .y 78, .y 79, .y 80, .y 81, .y 82, .y 83, .y 84, .y 85, .y 86, .y 87, .y 88, .y 89, .y 90, .y 91, .y 92, .y 93, .y 94, .y 95, .y 96, .y 97, .y 98, .y 99, .y 100, .y 101, .y 102, .y 103, .y 104, .y 105, .y 106, .y 107, .y 108, .y 109, .y 110, .y 111, .y 112, .y 113, .y 114, .y 115, .y 116, .y 117, .y 118, .y 119, .y 120, .y 121, .y 122, .y 123, .y 124, .y 125, .y 126, .y 127, .y 128, .y 129, .y 130, .y 131, .y 132, .y 133, .y 134, .y 135, .y 136, .y 137, .y 138, .y 139, .y 140, .y 141, .y 142, .y 143, .y 144, .y 145, .y 146, .y 147, .y 148, .y 149, .y 150, .y 151, .y 152, .y 153, .y 154, .y 155, .y 156, .y 157, .y 158, .y 159, .y 160, .y 161, .y 162, .y 163, .y 164, .y 165, .y 166, .y 167, .y 168, .y 169, .y 170, .y 171, .y 172, .y 173, .y 174, .y 175, .y 176, .y 177, .y 178, .y 179, .y 180, .y 181, .y 182, .y 183, .y 184, .y 185, .y 186, .y 187, .y 188, .y 189, .y 190, .y 191, .y 192, .y 193, .y 194, .y 195, .y 196, .y 197, .y 198, .y 199, .y 200, .y 201, .y 202, .y 203, .y 204, .y 205, .y 206, .y 207, .y 208, .y 209, .y 210, .y 211, .y 212, .y 213, .y 214, .y 215, .y 216, .y 217, .y 218, .y 219, .y 220, .y 221, .y 222, .y 223, .y 224, .y 225, .y 226, .y 227, .y 228, .y 229, .y 230, .y 231, .y 232, .y 233, .y 234, .y 235, .y 236, .y 237, .y 238, .y 239, .y 240, .y 241, .y 242, .y 243, .y 244, .y 245, .y 246, .y 247, .y 248, .y 249, .y 250, .y 251, .y 252, .y 253, .y 254, .y 255, .y 256, .y 257, .y 258, .y 259, .y 260, .y 261, .y 262, .k, .k, .k, .k, .k, .k, .k, .k, .k, .k, .k, .k, .k, .k, .k, .k, .k, .k], the slots 11 0 0 0, the relation fun v _ _ _ wx => ∃ b : Bool, v = .bool b ∧ Hid (SgEnd w s P L (.slice (some ⟨gb, o, none⟩) (L + 1) c1) k b wx)
      apply wp_cutm [.k, .k, .k, .k, .k, .k, .k, .k, .k, .k, .k, .a, .y 12, .y 13, .y 14, .y 15, .y 16, .y 17, .y 18, .y 19, .y 20, .y 21, .y 22, .y 23, .y 24, .y 25, .y 26, .y 27, .k, .k, .k, .k, .k, .k, .k, .k, .k, .k, .k, .k, .k, .k, .k, .k, .k, .k, .k, .k, .k, .k, .k, .k, .k, .k, .k, .k, .k, .k, .k, .k, .k, .k, .k, .k, .k, .y 65, .y 66, .y 67, .y 68, .y 69, .y 70, .y 71, .y 72, .y 73, .y 74, .y 75, .y 76, .y 77, .y 78, .y 79, .y 80, .y 81, .y 82, .y 83, .y 84, .y 85, .y 86, .y 87, .y 88, .y 89, .y 90, .y 91, .y 92, .y 93, .y 94, .y 95, .y 96, .y 97, .y 98, .y 99, .y 100, .y 101, .y 102, .y 103, .y 104, .y 105, .y 106, .y 107, .y 108, .y 109, .y 110, .y 111, .y 112, .y 113, .y 114, .y 115, .y 116, .y 117, .y 118, .y 119, .y 120, .y 121, .y 122, .y 123, .y 124, .y 125, .y 126, .y 127, .y 128, .y 129, .y 130, .y 131, .y 132, .y 133, .y 134, .y 135, .y 136, .y 137, .y 138, .y 139, .y 140, .y 141, .y 142, .y 143, .y 144, .y 145, .y 146, .y 147, .y 148, .y 149, .y 150, .y 151, .y 152, .y 153, .y 154, .y 155, .y 156, .y 157, .y 158, .y 159, .y 160, .y 161, .y 162, .y 163, .y 164, .y 165, .y 166, .y 167, .y 168, .y 169, .y 170, .y 171, .y 172, .y 173, .y 174, .y 175, .y 176, .y 177, .y 178, .y 179, .y 180, .y 181, .y 182, .y 183, .y 184, .y 185, .y 186, .y 187, .y 188, .y 189, .y 190, .y 191, .y 192, .y 193, .y 194, .y 195, .y 196, .y 197, .y 198, .y 199, .y 200, .y 201, .y 202, .y 203, .y 204, .y 205, .y 206, .y 207, .y 208, .y 209, .y 210, .y 211, .y 212, .y 213, .y 214, .y 215, .y 216, .y 217, .y 218, .y 219, .y 220, .y 221, .y 222, .y 223, .y 224, .y 225, .y 226, .y 227, .y 228, .y 229, .y 230, .y 231, .y 232, .y 233, .y 234, .y 235, .y 236, .y 237, .y 238, .y 239, .y 240, .y 241, .y 242, .y 243, .y 244, .y 245, .y 246, .y 247, .y 248, .y 249, .y 250, .y 251, .y 252, .y 253, .y 254, .y 255, .y 256, .y 257, .y 258, .y 259, .y 260, .y 261, .y 262, .k, .k, .k, .k, .k, .k, .k, .k, .k, .k, .k, .k, .k, .k, .k, .k, .k, .k] 11 0 0 0 (by decide +kernel) (fun v _ _ _ wx => ∃ b : Bool, v = .bool b ∧ Hid (SgEnd w s P L (.slice (some ⟨gb, o, none⟩) (L + 1) c1) k b wx))
      case first =>
        -- within a cut
        intro JJ KK hmeet hnext
        -- of what is to be done behind only the innermost is kept
        rename ∀ (a : Act) (w : World), Code.wp _ _ _ a w → _ => hkeep
        revert hkeep
        repeat (rename ∀ (a : Act) (w : World), Code.wp _ _ _ a w → _ => hz; clear hz)
        intro hkeep
        by_cases hkc : K = kindW ∧ g.bonds.length = 0 ∧ ∃ a, P2[1]? = some a ∧ wordB a = true
        · obtain ⟨rfl, h0, a, ha, hwa⟩ := hkc
          have HKC : Hid (decide (kindW = kindW ∧ g.bonds.length = 0 ∧ ∃ a, P2[1]? = some a ∧ wordB a = true) = true) := decide_eq_true ⟨rfl, h0, a, ha, hwa⟩
          rw [HKC.out]
          have HLN : Hid (lineS g (x ++ [10]) = (readKndL P2).map fun k => ⟨g.kinds ++ [k], g.bonds⟩) := by
            unfold Hid; rw [HLT.out, if_pos ⟨HHD.out, h0⟩]
          obtain ⟨ws, hws⟩ : ∃ ws, P2 = kindW :: a :: ws := by
            have h1 := HKT.out
            rw [h1] at ha
            cases T with
            | nil => simp at ha
            | cons b r => rw [List.getElem?_cons_succ, List.getElem?_cons_zero] at ha; injection ha with ha; exact ⟨r, by rw [h1, ha]⟩
          obtain ⟨p1, p2, p3⟩ := knd_parts hws hwa
          have HWS := Lib.hid hws
          have HP2 := Lib.hid p2
          have HP3 := Lib.hid p3
          have hlen2 : 2 ≤ P2.length := by rw [hws]; simp
          clear hws
          have h2q : (1 : Int) < (P2.length : Int) := by omega
          obtain ⟨gw', ow', hA, has, d1⟩ := str_at (k := 1) HSW.out (d := bs a) (by rw [List.getElem?_map, ha]; rfl)
          injection hA with hA
          injection hA with e1 e2
          subst e1
          subst e2
          have HAS := Lib.hid has
          have hbk := heap_alloc_new w3 (.cells #[.string (bs a), .slice none 0 0, .slice none 0 0] 59)
          have hba : Below w3.heap.size w3 (w3.alloc (.cells #[.string (bs a), .slice none 0 0, .slice none 0 0] 59)) := (Below.refl _ _).alloc (Nat.le_refl _) _
          have HKS0 : Hid (KS w3 a [] none 0 [] none 0 (w3.alloc (.cells #[.string (bs a), .slice none 0 0, .slice none 0 0] 59))) := ⟨hba, hbk, Own.nil _ _ _ _, Own.nil _ _ _ _, fun _ h => by cases h⟩
          have HSW4 := Lib.hid (HSW.out.below hba)
          clear hbk hba p2 p3 hwa has ha HLT HKC N1 N2 HHD HK0
          go_upto_region 13 with fail
          obtain ⟨w4, hw4⟩ : ∃ x : World, x = w3.alloc (.cells #[.string (bs a), .slice none 0 0, .slice none 0 0] 59) := ⟨_, rfl⟩
          rw [← hw4] at HKS0 HSW4 ⊢
          clear hw4 d1
          go_upto_region 14 with fail
          -- a cut: the mask [.k, .k, .k, .k, .k, .k, .k, .k, .k, .k, .k, .k, .k, .k, .k, .k, .k, .k, .k, .k, .k, .k, .k, .k, .k, .k, .k, .k, .k, .k, .k, .k, .k, .k, .k, .k, .k, .k, .k, .k, .k, .k, .k, .k, .k, .k, .k, .k, .k, .k, .k, .k, .k, .k, .k, .k, .k, .k, .k, .k, .k, .k, .k, .k, .k, .k, .k, .k, .k, .k, .y 70, .y 71, .y 72, .y 73, .y 74, .y 75, .y 76, .y 77, .a, .k, .k, .k, .k, .k, .k, .k, .k, .k, .k, .k, .k, .k, .k, .k, .k, .k, .k, .k, .k, .k, .k, .k, .k, .k, .k, .k, .k, .k, .k, .k, .k, .k, .k, .k, .k, .k, .k, .k, .k, .k, .k, .k, .k, .k, .k, .k, .k, .k, .k, .k, .k, .k, .k, .k, .k, .k, .k, .k, .k, .k, .k, .k, .k, .k, .k, .k, .k, .k, .k, .k, .k, .k, .k, .k, .k, .k, .k, .k, .k, .k, .k, .k, .k, .k, .k, .k, .k, .k, .k, .k, .k, .k, .k, .k, .k, .k, .k, .k, .k, .k, .k, .k, .k, .k, .k, .k, .k, .k, .k, .k, .k, .k, .k, .k, .k, .k, .k, .k, .k, .k, .k, .k, .k, .k, .k, .k, .k, .k, .k, .k, .k, .k, .k, .k, .k, .k, .k, .k, .k, .k, .k, .k, .k, .k, .k, .k, .k, .k, .k, .k, .k, .k, .k, .k, .k, .k, .k, .k, .k, .k, .k, .k, .k, .k, .k, .k, .k, .k, .k, .k, .k, .k, .k, .k, .k, .k, .k, .k, .k, .k, .k, .k, .k, .k, .k, .k, .k, .k, .k, .k, .k, .k, .k, .k, .k, .k, .k, .k, .k, .k, .k], the slots 78 0 0 0, the relation fun v _ _ _ wx => v = .bool (decide (3 < P2.length ∧ P2[2]? = some ofW)) ∧ wx = w4
          apply wp_cutm [.k, .k, .k, .k, .k, .k, .k, .k, .k, .k, .k, .k, .k, .k, .k, .k, .k, .k, .k, .k, .k, .k, .k, .k, .k, .k, .k, .k, .k, .k, .k, .k, .k, .k, .k, .k, .k, .k, .k, .k, .k, .k, .k, .k, .k, .k, .k, .k, .k, .k, .k, .k, .k, .k, .k, .k, .k, .k, .k, .k, .k, .k, .k, .k, .k, .k, .k, .k, .k, .k, .y 70, .y 71, .y 72, .y 73, .y 74, .y 75, .y 76, .y 77, .a, .k, .k, .k, .k, .k, .k, .k, .k, .k, .k, .k, .k, .k, .k, .k, .k, .k, .k, .k, .k, .k, .k, .k, .k, .k, .k, .k, .k, .k, .k, .k, .k, .k, .k, .k, .k, .k, .k, .k, .k, .k, .k, .k, .k, .k, .k, .k, .k, .k, .k, .k, .k, .k, .k, .k, .k, .k, .k, .k, .k, .k, .k, .k, .k, .k, .k, .k, .k, .k, .k, .k, .k, .k, .k, .k, .k, .k, .k, .k, .k, .k, .k, .k, .k, .k, .k, .k, .k, .k, .k, .k, .k, .k, .k, .k, .k, .k, .k, .k, .k, .k, .k, .k, .k, .k, .k, .k, .k, .k, .k, .k, .k, .k, .k, .k, .k, .k, .k, .k, .k, .k, .k, .k, .k, .k, .k, .k, .k, .k, .k, .k, .k, .k, .k, .k, .k, .k, .k, .k, .k, .k, .k, .k, .k, .k, .k, .k, .k, .k, .k, .k, .k, .k, .k, .k, .k, .k, .k, .k, .k, .k, .k, .k, .k, .k, .k, .k, .k, .k, .k, .k, .k, .k, .k, .k, .k, .k, .k, .k, .k, .k, .k, .k, .k, .k, .k, .k, .k, .k, .k, .k, .k, .k, .k, .k, .k, .k, .k, .k, .k, .k, .k] 78 0 0 0 (by decide +kernel) (fun v _ _ _ wx => v = .bool (decide (3 < P2.length ∧ P2[2]? = some ofW)) ∧ wx = w4)
          case first =>
            -- within a cut
            intro JJ KK hmeet hnext
            -- of what is to be done behind only the innermost is kept
            rename ∀ (a : Act) (w : World), Code.wp _ _ _ a w → _ => hkeep
            revert hkeep
            repeat (rename ∀ (a : Act) (w : World), Code.wp _ _ _ a w → _ => hz; clear hz)
            intro hkeep
            by_cases h3 : 3 < P2.length
            case neg =>
              have h3n : ¬ (3 : Int) < (P2.length : Int) := by omega
              have HD : Hid (decide (3 < P2.length ∧ P2[2]? = some ofW) = false) := decide_eq_false (fun h => h3 h.1)
              clear h3
              go_wp2_with fail
              -- a way's end
              refine Met.intro ?_
              go_step
              refine Forgot.at _ _ _ _ _ rfl rfl rfl rfl rfl rfl ?_
              exact ⟨by rw [HD.out], rfl⟩
            obtain ⟨y, hy⟩ : ∃ y, P2[2]? = some y := ⟨_, List.getElem?_eq_getElem (by omega)⟩
            obtain ⟨gw', ow', hA, _, d2⟩ := str_at (k := 2) HSW4.out (d := bs y) (by rw [List.getElem?_map, hy]; rfl)
            injection hA with hA
            injection hA with e1 e2
            subst e1
            subst e2
            have h3p : (3 : Int) < (P2.length : Int) := by omega
            have h3q : (2 : Int) < (P2.length : Int) := by omega
            have eo : (bs ofW).toList = [111, 102] := by decide +kernel
            have no := bs_lit (K := y) eo
            by_cases hyo : y = ofW
            · have b1 : (bs y).toList = [111, 102] := by rw [no]; exact hyo
              have b2 : ((bs y).toList == [111, 102]) = true := by rw [b1]; rfl
              have HD : Hid (decide (3 < P2.length ∧ P2[2]? = some ofW) = true) := decide_eq_true ⟨h3, by rw [hy, hyo]⟩
              clear h3 hy eo no hyo
              go_wp2_with fail
              -- a way's end
              refine Met.intro ?_
              go_step
              refine Forgot.at _ _ _ _ _ rfl rfl rfl rfl rfl rfl ?_
              exact ⟨by rw [HD.out], rfl⟩
            · have b1 : ¬ (bs y).toList = [111, 102] := by rw [no]; exact hyo
              have b2 : ((bs y).toList == [111, 102]) = false := beq_eq_false_iff_ne.2 b1
              have HD : Hid (decide (3 < P2.length ∧ P2[2]? = some ofW) = false) := decide_eq_false (fun h => by
                rw [hy] at h
                have := h.2
                injection this with this
                exact hyo this)
              clear h3 hy eo no hyo
              go_wp2_with fail
              -- a way's end
              refine Met.intro ?_
              go_step
              refine Forgot.at _ _ _ _ _ rfl rfl rfl rfl rfl rfl ?_
              exact ⟨by rw [HD.out], rfl⟩
          case rest =>
          -- behind a cut: the names of the slots' values u78 _ _ _ (four)
          intro ff u78 _ _ _ wc hcut
          dsimp only [spread]
          obtain ⟨rfl, hw⟩ := hcut
          obtain ⟨w5, hw5⟩ : ∃ x : World, x = wc := ⟨_, rfl⟩
          subst hw5
          rw [← hw] at HKS0 HSW4
          clear hw
          go_upto_if 78 with fail
          -- a cut: the mask [.k, .k, .k, .k, .k, .k, .k, .k, .k, .k, .k, .k, .k, .a, .k, .k, .k, .k, .k, .k, .k, .k, .k, .k, .k, .k, .k, .k, .k, .k, .k, .k, .k, .k, .k, .k, .k, .k, .k, .k, .k, .k, .k, .k, .k, .k, .k, .k, .k, .k, .k, .k, .k, .k, .k, .k, .k, .k, .k, .k, .k, .k, .k, .k, .k, .k, .k, .k, .k, .k, .k, .k, .k, .k, .k, .k, .k, .k, .y 78, .y 79, .y 80, .y 81, .y 82, .y 83, .k, .k, .k, .k, .k, .k, .k, .k, .k, .k, .k, .k, .k, .k, .k, .k, .k, .k, .k, .k, .k, .k, .k, .k, .k, .k, .k, .k, .k, .k, .k, .k, .k, .k, .k, .k, .k, .k, .k, .k, .k, .k, .k, .k, .k, .k, .k, .k, .k, .k, .k, .k, .k, .k, .k, .k, .k, .k, .k, .k, .k, .k, .k, .k, .k, .k, .k, .k, .k, .k, .k, .k, .k, .k, .k, .k, .k, .k, .k, .k, .k, .k, .k, .k, .k, .k, .k, .k, .k, .k, .k, .k, .k, .k, .k, .k, .k, .k, .k, .k, .k, .k, .k, .k, .k, .k, .k, .k, .k, .k, .k, .k, .k, .k, .k, .k, .k, .k, .k, .k, .k, .k, .k, .k, .k, .k, .k, .k, .k, .k, .k, .k, .k, .k, .k, .k, .k, .k, .k, .k, .k, .k, .k, .k, .k, .k, .k, .k, .k, .k, .k, .k, .k, .k, .k, .k, .k, .k, .k, .k, .k, .k, .k, .k, .k, .k, .k, .k, .k, .k, .k, .k, .k, .k, .k, .k, .k, .k, .k, .k, .k, .k, .k, .k, .k, .k, .k, .k, .k, .k, .k, .k, .k, .k, .k, .k, .k], the slots 13 0 0 0, the relation fun v _ _ _ wx => v = .int .i64 ((ofQ P2).2 : Nat) ∧ ∃ Ao co, Hid (KS w3 a (ofQ P2).1 Ao co [] none 0 wx)
          apply wp_cutm [.k, .k, .k, .k, .k, .k, .k, .k, .k, .k, .k, .k, .k, .a, .k, .k, .k, .k, .k, .k, .k, .k, .k, .k, .k, .k, .k, .k, .k, .k, .k, .k, .k, .k, .k, .k, .k, .k, .k, .k, .k, .k, .k, .k, .k, .k, .k, .k, .k, .k, .k, .k, .k, .k, .k, .k, .k, .k, .k, .k, .k, .k, .k, .k, .k, .k, .k, .k, .k, .k, .k, .k, .k, .k, .k, .k, .k, .k, .y 78, .y 79, .y 80, .y 81, .y 82, .y 83, .k, .k, .k, .k, .k, .k, .k, .k, .k, .k, .k, .k, .k, .k, .k, .k, .k, .k, .k, .k, .k, .k, .k, .k, .k, .k, .k, .k, .k, .k, .k, .k, .k, .k, .k, .k, .k, .k, .k, .k, .k, .k, .k, .k, .k, .k, .k, .k, .k, .k, .k, .k, .k, .k, .k, .k, .k, .k, .k, .k, .k, .k, .k, .k, .k, .k, .k, .k, .k, .k, .k, .k, .k, .k, .k, .k, .k, .k, .k, .k, .k, .k, .k, .k, .k, .k, .k, .k, .k, .k, .k, .k, .k, .k, .k, .k, .k, .k, .k, .k, .k, .k, .k, .k, .k, .k, .k, .k, .k, .k, .k, .k, .k, .k, .k, .k, .k, .k, .k, .k, .k, .k, .k, .k, .k, .k, .k, .k, .k, .k, .k, .k, .k, .k, .k, .k, .k, .k, .k, .k, .k, .k, .k, .k, .k, .k, .k, .k, .k, .k, .k, .k, .k, .k, .k, .k, .k, .k, .k, .k, .k, .k, .k, .k, .k, .k, .k, .k, .k, .k, .k, .k, .k, .k, .k, .k, .k, .k, .k, .k, .k, .k, .k, .k, .k, .k, .k, .k, .k, .k, .k, .k, .k, .k, .k, .k, .k] 13 0 0 0 (by decide +kernel) (fun v _ _ _ wx => v = .int .i64 ((ofQ P2).2 : Nat) ∧ ∃ Ao co, Hid (KS w3 a (ofQ P2).1 Ao co [] none 0 wx))
          case first =>
            -- within a cut
            intro JJ KK hmeet hnext
            -- of what is to be done behind only the innermost is kept
            rename ∀ (a : Act) (w : World), Code.wp _ _ _ a w → _ => hkeep
            revert hkeep
            repeat (rename ∀ (a : Act) (w : World), Code.wp _ _ _ a w → _ => hz; clear hz)
            intro hkeep
            by_cases h3 : 3 < P2.length ∧ P2[2]? = some ofW
            · obtain ⟨y, hy⟩ : ∃ y, P2[3]? = some y := ⟨_, List.getElem?_eq_getElem h3.1⟩
              have HQ : Hid (ofQ P2 = (Lib.split y [44], 4)) := by
                unfold Hid ofQ; rw [if_pos h3, List.getD_eq_getElem?_getD, hy]; rfl
              have h3p : (3 : Int) < (P2.length : Int) := Int.ofNat_lt.2 h3.1
              obtain ⟨gw', ow', hA, hys, d3⟩ := str_at (k := 3) HSW4.out (d := bs y) (by rw [List.getElem?_map, hy]; rfl)
              injection hA with hA
              injection hA with e1 e2
              subst e1
              subst e2
              have hcall := rcut_any (bs y) 44 (by decide) false w5 hys
              rw [rcut_plain (by decide), bs_list, show (Value.int .u8 ((44 : UInt8).toNat : Int)) = .int .u8 44 from rfl] at hcall
              rw [decide_eq_true h3]
              generalize Lib.split y [44] = O at *
              clear h3 hy
              go_wp2_with fail
              refine hcall.mono ?_
              clear hcall d3
              rintro e w6 ⟨Ao, co, rfl, hown, hb⟩
              have HK6 := Lib.hid (HKS0.out.below hb)
              have HNEW := Lib.hid (KS.setOf HK6.out (hown.mono HKS0.out.bel.size))
              have y1 := block_cell HK6.out.kb 1
              have f1 := block_free HK6.out.kb 1
              clear hown hb
              go_wp2_with fail
              -- a way's end
              refine Met.intro ?_
              go_step
              refine Forgot.at _ _ _ _ _ rfl rfl rfl rfl rfl rfl ?_
              exact ⟨by rw [HQ.out]; rfl, Ao, co, by rw [HQ.out]; exact HNEW⟩
            · have HQ : Hid (ofQ P2 = ([], 2)) := by unfold Hid ofQ; rw [if_neg h3]
              rw [decide_eq_false h3]
              clear h3
              go_wp2_with fail
              -- a way's end
              refine Met.intro ?_
              go_step
              refine Forgot.at _ _ _ _ _ rfl rfl rfl rfl rfl rfl ?_
              exact ⟨by rw [HQ.out]; rfl, none, 0, by rw [HQ.out]; exact HKS0⟩
          case rest =>
          -- behind a cut: the names of the slots' values u13 _ _ _ (four)
          intro ff u13 _ _ _ wc hcut
          dsimp only [spread]
          obtain ⟨w6, hw6⟩ : ∃ x : World, x = wc := ⟨_, rfl⟩
          subst hw6
          obtain ⟨rfl, Ao, co, HKS⟩ := hcut
          have HSW6 := Lib.hid (HSW.out.below HKS.out.bel)
          obtain ⟨O, base, hOb⟩ : ∃ O base, ofQ P2 = (O, base) := ⟨_, _, rfl⟩
          rw [hOb] at HKS p1 HP2 HP3 ⊢
          have p1 : base ≤ P2.length := p1
          have HP2 : Hid (O.all wordB = false → readKndL P2 = none) := HP2.out
          have HP3 : Hid (O.all wordB = true → (fldsP (P2.drop base) = none → readKndL P2 = none) ∧ ∀ fs, fldsP (P2.drop base) = some fs → readKndL P2 = some ⟨bs a, O.map bs, fs⟩) := HP3.out
          have HOS : Hid (∀ x ∈ O, x.length ≤ 1048576) := by have h := ofQ_small HPL2.out; rw [hOb] at h; exact h
          have hol : O.length ≤ 1048577 := by have h := ofQ_len HPL2.out; rw [hOb] at h; exact h
          clear hOb
          clear HKS0 HSW4
          go_upto_block 2 with fail
          -- a cut: the mask [.k, .k, .k, .k, .k, .k, .k, .k, .k, .k, .k, .a, .k, .k, .y 14, .y 15, .k, .k, .k, .k, .k, .k, .k, .k, .k, .k, .k, .k, .k, .k, .k, .k, .k, .k, .k, .k, .k, .k, .k, .k, .k, .k, .k, .k, .k, .k, .k, .k, .k, .k, .k, .k, .k, .k, .k, .k, .k, .k, .k, .k, .k, .k, .k, .k, .k, .k, .k, .k, .k, .k, .k, .k, .k, .k, .k, .k, .k, .k, .k, .k, .k, .k, .k, .k, .y 84, .y 85, .y 86, .y 87, .y 88, .y 89, .y 90, .y 91, .y 92, .y 93, .y 94, .y 95, .y 96, .y 97, .y 98, .y 99, .y 100, .k, .k, .k, .k, .k, .k, .k, .k, .k, .k, .k, .k, .k, .k, .k, .k, .k, .k, .k, .k, .k, .k, .k, .k, .k, .k, .k, .k, .k, .k, .k, .k, .k, .k, .k, .k, .k, .k, .k, .k, .k, .k, .k, .k, .k, .k, .k, .k, .k, .k, .k, .k, .k, .k, .k, .k, .k, .k, .k, .k, .k, .k, .k, .k, .k, .k, .k, .k, .k, .k, .k, .k, .k, .k, .k, .k, .k, .k, .k, .k, .k, .k, .k, .k, .k, .k, .k, .k, .k, .k, .k, .k, .k, .k, .k, .k, .k, .k, .k, .k, .k, .k, .k, .k, .k, .k, .k, .k, .k, .k, .k, .k, .k, .k, .k, .k, .k, .k, .k, .k, .k, .k, .k, .k, .k, .k, .k, .k, .k, .k, .k, .k, .k, .k, .k, .k, .k, .k, .k, .k, .k, .k, .k, .k, .k, .k, .k, .k, .k, .k, .k, .k, .k, .k, .k, .k, .k, .k, .k, .k, .k, .k, .k, .k, .k, .k, .k, .k, .k, .k, .k, .k, .k, .k, .k, .k, .k, .k, .k, .k], the slots 11 0 0 0, the relation fun v _ _ _ wx => v = .bool (O.all wordB) ∧ Hid (KS w3 a O Ao co [] none 0 wx)
          apply wp_cutm [.k, .k, .k, .k, .k, .k, .k, .k, .k, .k, .k, .a, .k, .k, .y 14, .y 15, .k, .k, .k, .k, .k, .k, .k, .k, .k, .k, .k, .k, .k, .k, .k, .k, .k, .k, .k, .k, .k, .k, .k, .k, .k, .k, .k, .k, .k, .k, .k, .k, .k, .k, .k, .k, .k, .k, .k, .k, .k, .k, .k, .k, .k, .k, .k, .k, .k, .k, .k, .k, .k, .k, .k, .k, .k, .k, .k, .k, .k, .k, .k, .k, .k, .k, .k, .k, .y 84, .y 85, .y 86, .y 87, .y 88, .y 89, .y 90, .y 91, .y 92, .y 93, .y 94, .y 95, .y 96, .y 97, .y 98, .y 99, .y 100, .k, .k, .k, .k, .k, .k, .k, .k, .k, .k, .k, .k, .k, .k, .k, .k, .k, .k, .k, .k, .k, .k, .k, .k, .k, .k, .k, .k, .k, .k, .k, .k, .k, .k, .k, .k, .k, .k, .k, .k, .k, .k, .k, .k, .k, .k, .k, .k, .k, .k, .k, .k, .k, .k, .k, .k, .k, .k, .k, .k, .k, .k, .k, .k, .k, .k, .k, .k, .k, .k, .k, .k, .k, .k, .k, .k, .k, .k, .k, .k, .k, .k, .k, .k, .k, .k, .k, .k, .k, .k, .k, .k, .k, .k, .k, .k, .k, .k, .k, .k, .k, .k, .k, .k, .k, .k, .k, .k, .k, .k, .k, .k, .k, .k, .k, .k, .k, .k, .k, .k, .k, .k, .k, .k, .k, .k, .k, .k, .k, .k, .k, .k, .k, .k, .k, .k, .k, .k, .k, .k, .k, .k, .k, .k, .k, .k, .k, .k, .k, .k, .k, .k, .k, .k, .k, .k, .k, .k, .k, .k, .k, .k, .k, .k, .k, .k, .k, .k, .k, .k, .k, .k, .k, .k, .k, .k, .k, .k, .k, .k] 11 0 0 0 (by decide +kernel) (fun v _ _ _ wx => v = .bool (O.all wordB) ∧ Hid (KS w3 a O Ao co [] none 0 wx))
          case first =>
            -- within a cut
            intro JJ KK hmeet hnext
            -- of what is to be done behind only the innermost is kept
            rename ∀ (a : Act) (w : World), Code.wp _ _ _ a w → _ => hkeep
            revert hkeep
            repeat (rename ∀ (a : Act) (w : World), Code.wp _ _ _ a w → _ => hz; clear hz)
            intro hkeep
            go_wp2_with fail
            -- a loop: the mask [.k, .k, .k, .k, .k, .k, .k, .k, .k, .k, .k, .b, .k, .k, .a, .y 15, .k, .k, .k, .k, .k, .k, .k, .k, .k, .k, .k, .k, .k, .k, .k, .k, .k, .k, .k, .k, .k, .k, .k, .k, .k, .k, .k, .k, .k, .k, .k, .k, .k, .k, .k, .k, .k, .k, .k, .k, .k, .k, .k, .k, .k, .k, .k, .k, .k, .k, .k, .k, .k, .k, .k, .k, .k, .k, .k, .k, .k, .k, .k, .k, .k, .k, .k, .k, .y 84, .y 85, .y 86, .y 87, .y 88, .y 89, .y 90, .y 91, .y 92, .y 93, .y 94, .y 95, .y 96, .y 97, .y 98, .y 99, .y 100, .k, .k, .k, .k, .k, .k, .k, .k, .k, .k, .k, .k, .k, .k, .k, .k, .k, .k, .k, .k, .k, .k, .k, .k, .k, .k, .k, .k, .k, .k, .k, .k, .k, .k, .k, .k, .k, .k, .k, .k, .k, .k, .k, .k, .k, .k, .k, .k, .k, .k, .k, .k, .k, .k, .k, .k, .k, .k, .k, .k, .k, .k, .k, .k, .k, .k, .k, .k, .k, .k, .k, .k, .k, .k, .k, .k, .k, .k, .k, .k, .k, .k, .k, .k, .k, .k, .k, .k, .k, .k, .k, .k, .k, .k, .k, .k, .k, .k, .k, .k, .k, .k, .k, .k, .k, .k, .k, .k, .k, .k, .k, .k, .k, .k, .k, .k, .k, .k, .k, .k, .k, .k, .k, .k, .k, .k, .k, .k, .k, .k, .k, .k, .k, .k, .k, .k, .k, .k, .k, .k, .k, .k, .k, .k, .k, .k, .k, .k, .k, .k, .k, .k, .k, .k, .k, .k, .k, .k, .k, .k, .k, .k, .k, .k, .k, .k, .k, .k, .k, .k, .k, .k, .k, .k, .k, .k, .k, .k, .k, .k], the slots 14 11 0 0, the relation fun x14 x11 _ _ wr => ∃ j : Nat, j ≤ O.length ∧ x14 = .int .i64 j ∧ x11 = .bool ((O.take j).all wordB) ∧ Hid (KS w3 a O Ao co [] none 0 wr), the measure fun x14 _ _ _ _ => O.length - (intOf x14).toNat
            apply wp_loopm [.k, .k, .k, .k, .k, .k, .k, .k, .k, .k, .k, .b, .k, .k, .a, .y 15, .k, .k, .k, .k, .k, .k, .k, .k, .k, .k, .k, .k, .k, .k, .k, .k, .k, .k, .k, .k, .k, .k, .k, .k, .k, .k, .k, .k, .k, .k, .k, .k, .k, .k, .k, .k, .k, .k, .k, .k, .k, .k, .k, .k, .k, .k, .k, .k, .k, .k, .k, .k, .k, .k, .k, .k, .k, .k, .k, .k, .k, .k, .k, .k, .k, .k, .k, .k, .y 84, .y 85, .y 86, .y 87, .y 88, .y 89, .y 90, .y 91, .y 92, .y 93, .y 94, .y 95, .y 96, .y 97, .y 98, .y 99, .y 100, .k, .k, .k, .k, .k, .k, .k, .k, .k, .k, .k, .k, .k, .k, .k, .k, .k, .k, .k, .k, .k, .k, .k, .k, .k, .k, .k, .k, .k, .k, .k, .k, .k, .k, .k, .k, .k, .k, .k, .k, .k, .k, .k, .k, .k, .k, .k, .k, .k, .k, .k, .k, .k, .k, .k, .k, .k, .k, .k, .k, .k, .k, .k, .k, .k, .k, .k, .k, .k, .k, .k, .k, .k, .k, .k, .k, .k, .k, .k, .k, .k, .k, .k, .k, .k, .k, .k, .k, .k, .k, .k, .k, .k, .k, .k, .k, .k, .k, .k, .k, .k, .k, .k, .k, .k, .k, .k, .k, .k, .k, .k, .k, .k, .k, .k, .k, .k, .k, .k, .k, .k, .k, .k, .k, .k, .k, .k, .k, .k, .k, .k, .k, .k, .k, .k, .k, .k, .k, .k, .k, .k, .k, .k, .k, .k, .k, .k, .k, .k, .k, .k, .k, .k, .k, .k, .k, .k, .k, .k, .k, .k, .k, .k, .k, .k, .k, .k, .k, .k, .k, .k, .k, .k, .k, .k, .k, .k, .k, .k, .k] 14 11 0 0 (by decide +kernel) rfl (fun x14 x11 _ _ wr => ∃ j : Nat, j ≤ O.length ∧ x14 = .int .i64 j ∧ x11 = .bool ((O.take j).all wordB) ∧ Hid (KS w3 a O Ao co [] none 0 wr)) (fun x14 _ _ _ _ => O.length - (intOf x14).toNat) _ _ _ _ rfl rfl rfl rfl
            case start => exact ⟨0, Nat.zero_le _, rfl, rfl, HKS⟩
            case round =>
              -- a round: the names u14 u11 _ _ (four), the world's name
              intro ff u14 u11 _ _ wr hrel
              dsimp only [spread]
              obtain ⟨j, hj, rfl, rfl, HKr⟩ := hrel
              obtain ⟨wk, hwk⟩ : ∃ x : World, x = wr := ⟨_, rfl⟩
              subst hwk
              have k1 := block_cell HKr.out.kb 1
              by_cases hjl : j < O.length
              · obtain ⟨y, hy⟩ : ∃ y, O[j]? = some y := ⟨_, List.getElem?_eq_getElem hjl⟩
                have hjl' : (j : Int) < (O.length : Int) := Int.ofNat_lt.2 hjl
                obtain ⟨go', oo', hA, hys, c0⟩ := str_at (own_words HKr.out.oo HOS.out) (d := bs y) (by rw [List.getElem?_map, hy]; rfl)
                subst hA
                have hcall := rwd_any (bs y) hys wk
                rw [bs_list] at hcall
                have HST : Hid ((O.take (j + 1)).all wordB = ((O.take j).all wordB && wordB y)) := by
                  unfold Hid; rw [List.take_add_one, hy, List.all_append]; simp
                generalize (O.take j).all wordB = bj at *
                generalize wordB y = by' at *
                clear hy hys
                go_wp2_with fail
                refine hcall.mono ?_
                clear hcall c0
                rintro e w8 ⟨rfl, hb⟩
                have HK8 := Lib.hid (HKr.out.below hb)
                clear hb k1
                cases bj with
                | false =>
                  have HX : Hid ((O.take (j + 1)).all wordB = false) := by unfold Hid; rw [HST.out]; rfl
                  clear HST
                  go_wp2_with fail
                  -- a round's end: the relation, the measure
                  apply Rounded.at _ _ _ _ _ rfl rfl rfl rfl rfl rfl
                  case rel => exact ⟨j + 1, by go_light; omega, by go_num, by rw [HX.out], HK8⟩
                  case measure => go_light; simp [intOf]; omega
                | true =>
                  have HX : Hid ((O.take (j + 1)).all wordB = by') := by unfold Hid; rw [HST.out]; rfl
                  clear HST
                  go_wp2_with fail
                  -- a round's end: the relation, the measure
                  apply Rounded.at _ _ _ _ _ rfl rfl rfl rfl rfl rfl
                  case rel => exact ⟨j + 1, by go_light; omega, by go_num, by rw [HX.out], HK8⟩
                  case measure => go_light; simp [intOf]; omega
              · obtain rfl : j = O.length := by go_light; omega
                rw [List.take_length]
                go_wp2_with fail
                -- a way's end
                refine Met.intro ?_
                go_step
                refine Forgot.at _ _ _ _ _ rfl rfl rfl rfl rfl rfl ?_
                exact ⟨rfl, HKr⟩
          case rest =>
          -- behind a cut: the names of the slots' values u11 _ _ _ (four)
          intro ff u11 _ _ _ wc hcut
          dsimp only [spread]
          obtain ⟨w7, hw7⟩ : ∃ x : World, x = wc := ⟨_, rfl⟩
          subst hw7
          clear HKS
          obtain ⟨rfl, HKS⟩ := hcut
          go_upto_block 4 with fail
          -- a cut: the mask [.k, .k, .k, .k, .k, .k, .k, .k, .k, .k, .k, .a, .k, .y 13, .k, .k, .y 16, .y 17, .y 18, .y 19, .k, .k, .k, .k, .k, .k, .k, .k, .k, .k, .k, .k, .k, .k, .k, .k, .k, .k, .k, .k, .k, .k, .k, .k, .k, .k, .k, .k, .k, .k, .k, .k, .k, .k, .k, .k, .k, .k, .k, .k, .k, .k, .k, .k, .k, .k, .k, .k, .k, .k, .k, .k, .k, .k, .k, .k, .k, .k, .k, .k, .k, .k, .k, .k, .k, .k, .k, .k, .k, .k, .k, .k, .k, .k, .k, .k, .k, .k, .k, .k, .k, .y 101, .y 102, .y 103, .y 104, .y 105, .y 106, .y 107, .y 108, .y 109, .y 110, .y 111, .y 112, .y 113, .y 114, .y 115, .y 116, .y 117, .y 118, .y 119, .y 120, .y 121, .y 122, .y 123, .y 124, .y 125, .y 126, .y 127, .y 128, .y 129, .y 130, .y 131, .y 132, .y 133, .y 134, .y 135, .y 136, .y 137, .y 138, .y 139, .y 140, .y 141, .y 142, .y 143, .y 144, .y 145, .y 146, .y 147, .y 148, .y 149, .y 150, .y 151, .y 152, .y 153, .y 154, .y 155, .y 156, .y 157, .y 158, .y 159, .y 160, .y 161, .y 162, .y 163, .y 164, .y 165, .y 166, .y 167, .y 168, .y 169, .y 170, .y 171, .y 172, .y 173, .y 174, .y 175, .y 176, .y 177, .y 178, .y 179, .y 180, .y 181, .y 182, .y 183, .y 184, .k, .k, .k, .k, .k, .k, .k, .k, .k, .k, .k, .k, .k, .k, .k, .k, .k, .k, .k, .k, .k, .k, .k, .k, .k, .k, .k, .k, .k, .k, .k, .k, .k, .k, .k, .k, .k, .k, .k, .k, .k, .k, .k, .k, .k, .k, .k, .k, .k, .k, .k, .k, .k, .k, .k, .k, .k, .k, .k, .k, .k, .k, .k, .k, .k, .k, .k, .k, .k, .k, .k, .k, .k, .k, .k, .k, .k, .k, .k, .k, .k, .k, .k, .k, .k, .k, .k, .k, .k, .k, .k, .k, .k, .k, .k, .k], the slots 11 0 0 0, the relation fun v _ _ _ wx => ∃ (b : Bool) (fs : List Fld) (Af : Option Addr) (cf : Nat), v = .bool b ∧ Hid (KS w3 a O Ao co fs Af cf wx) ∧ fs.length ≤ 1048577 ∧ Hid (b = true → readKndL P2 = some ⟨bs a, O.map bs, fs⟩) ∧ Hid (b = false → readKndL P2 = none)
          apply wp_cutm [.k, .k, .k, .k, .k, .k, .k, .k, .k, .k, .k, .a, .k, .y 13, .k, .k, .y 16, .y 17, .y 18, .y 19, .k, .k, .k, .k, .k, .k, .k, .k, .k, .k, .k, .k, .k, .k, .k, .k, .k, .k, .k, .k, .k, .k, .k, .k, .k, .k, .k, .k, .k, .k, .k, .k, .k, .k, .k, .k, .k, .k, .k, .k, .k, .k, .k, .k, .k, .k, .k, .k, .k, .k, .k, .k, .k, .k, .k, .k, .k, .k, .k, .k, .k, .k, .k, .k, .k, .k, .k, .k, .k, .k, .k, .k, .k, .k, .k, .k, .k, .k, .k, .k, .k, .y 101, .y 102, .y 103, .y 104, .y 105, .y 106, .y 107, .y 108, .y 109, .y 110, .y 111, .y 112, .y 113, .y 114, .y 115, .y 116, .y 117, .y 118, .y 119, .y 120, .y 121, .y 122, .y 123, .y 124, .y 125, .y 126, .y 127, .y 128, .y 129, .y 130, .y 131, .y 132, .y 133, .y 134, .y 135, .y 136, .y 137, .y 138, .y 139, .y 140, .y 141, .y 142, .y 143, .y 144, .y 145, .y 146, .y 147, .y 148, .y 149, .y 150, .y 151, .y 152, .y 153, .y 154, .y 155, .y 156, .y 157, .y 158, .y 159, .y 160, .y 161, .y 162, .y 163, .y 164, .y 165, .y 166, .y 167, .y 168, .y 169, .y 170, .y 171, .y 172, .y 173, .y 174, .y 175, .y 176, .y 177, .y 178, .y 179, .y 180, .y 181, .y 182, .y 183, .y 184, .k, .k, .k, .k, .k, .k, .k, .k, .k, .k, .k, .k, .k, .k, .k, .k, .k, .k, .k, .k, .k, .k, .k, .k, .k, .k, .k, .k, .k, .k, .k, .k, .k, .k, .k, .k, .k, .k, .k, .k, .k, .k, .k, .k, .k, .k, .k, .k, .k, .k, .k, .k, .k, .k, .k, .k, .k, .k, .k, .k, .k, .k, .k, .k, .k, .k, .k, .k, .k, .k, .k, .k, .k, .k, .k, .k, .k, .k, .k, .k, .k, .k, .k, .k, .k, .k, .k, .k, .k, .k, .k, .k, .k, .k, .k, .k] 11 0 0 0 (by decide +kernel) (fun v _ _ _ wx => ∃ (b : Bool) (fs : List Fld) (Af : Option Addr) (cf : Nat), v = .bool b ∧ Hid (KS w3 a O Ao co fs Af cf wx) ∧ fs.length ≤ 1048577 ∧ Hid (b = true → readKndL P2 = some ⟨bs a, O.map bs, fs⟩) ∧ Hid (b = false → readKndL P2 = none))
          case first =>
            -- within a cut
            intro JJ KK hmeet hnext
            -- of what is to be done behind only the innermost is kept
            rename ∀ (a : Act) (w : World), Code.wp _ _ _ a w → _ => hkeep
            revert hkeep
            repeat (rename ∀ (a : Act) (w : World), Code.wp _ _ _ a w → _ => hz; clear hz)
            intro hkeep
            go_wp2_with fail
            -- a loop: the mask [.k, .k, .k, .k, .k, .k, .k, .k, .k, .k, .k, .b, .k, .a, .k, .k, .y 16, .y 17, .y 18, .y 19, .k, .k, .k, .k, .k, .k, .k, .k, .k, .k, .k, .k, .k, .k, .k, .k, .k, .k, .k, .k, .k, .k, .k, .k, .k, .k, .k, .k, .k, .k, .k, .k, .k, .k, .k, .k, .k, .k, .k, .k, .k, .k, .k, .k, .k, .k, .k, .k, .k, .k, .k, .k, .k, .k, .k, .k, .k, .k, .k, .k, .k, .k, .k, .k, .k, .k, .k, .k, .k, .k, .k, .k, .k, .k, .k, .k, .k, .k, .k, .k, .k, .y 101, .y 102, .y 103, .y 104, .y 105, .y 106, .y 107, .y 108, .y 109, .y 110, .y 111, .y 112, .y 113, .y 114, .y 115, .y 116, .y 117, .y 118, .y 119, .y 120, .y 121, .y 122, .y 123, .y 124, .y 125, .y 126, .y 127, .y 128, .y 129, .y 130, .y 131, .y 132, .y 133, .y 134, .y 135, .y 136, .y 137, .y 138, .y 139, .y 140, .y 141, .y 142, .y 143, .y 144, .y 145, .y 146, .y 147, .y 148, .y 149, .y 150, .y 151, .y 152, .y 153, .y 154, .y 155, .y 156, .y 157, .y 158, .y 159, .y 160, .y 161, .y 162, .y 163, .y 164, .y 165, .y 166, .y 167, .y 168, .y 169, .y 170, .y 171, .y 172, .y 173, .y 174, .y 175, .y 176, .y 177, .y 178, .y 179, .y 180, .y 181, .y 182, .y 183, .y 184, .k, .k, .k, .k, .k, .k, .k, .k, .k, .k, .k, .k, .k, .k, .k, .k, .k, .k, .k, .k, .k, .k, .k, .k, .k, .k, .k, .k, .k, .k, .k, .k, .k, .k, .k, .k, .k, .k, .k, .k, .k, .k, .k, .k, .k, .k, .k, .k, .k, .k, .k, .k, .k, .k, .k, .k, .k, .k, .k, .k, .k, .k, .k, .k, .k, .k, .k, .k, .k, .k, .k, .k, .k, .k, .k, .k, .k, .k, .k, .k, .k, .k, .k, .k, .k, .k, .k, .k, .k, .k, .k, .k, .k, .k, .k, .k], the slots 13 11 0 0, the relation fun x13 x11 _ _ wr => ∃ (m : Nat) (b : Bool) (fs : List Fld) (Af : Option Addr) (cf : Nat), base + m ≤ P2.length ∧ x13 = .int .i64 ((base + m : Nat) : Int) ∧ x11 = .bool b ∧ Hid (KS w3 a O Ao co fs Af cf wr) ∧ fs.length ≤ m ∧ Hid (b = true → O.all wordB = true ∧ fldsP ((P2.drop base).take m) = some fs) ∧ Hid (b = false → readKndL P2 = none), the measure fun x13 _ _ _ _ => P2.length - (intOf x13).toNat
            apply wp_loopm [.k, .k, .k, .k, .k, .k, .k, .k, .k, .k, .k, .b, .k, .a, .k, .k, .y 16, .y 17, .y 18, .y 19, .k, .k, .k, .k, .k, .k, .k, .k, .k, .k, .k, .k, .k, .k, .k, .k, .k, .k, .k, .k, .k, .k, .k, .k, .k, .k, .k, .k, .k, .k, .k, .k, .k, .k, .k, .k, .k, .k, .k, .k, .k, .k, .k, .k, .k, .k, .k, .k, .k, .k, .k, .k, .k, .k, .k, .k, .k, .k, .k, .k, .k, .k, .k, .k, .k, .k, .k, .k, .k, .k, .k, .k, .k, .k, .k, .k, .k, .k, .k, .k, .k, .y 101, .y 102, .y 103, .y 104, .y 105, .y 106, .y 107, .y 108, .y 109, .y 110, .y 111, .y 112, .y 113, .y 114, .y 115, .y 116, .y 117, .y 118, .y 119, .y 120, .y 121, .y 122, .y 123, .y 124, .y 125, .y 126, .y 127, .y 128, .y 129, .y 130, .y 131, .y 132, .y 133, .y 134, .y 135, .y 136, .y 137, .y 138, .y 139, .y 140, .y 141, .y 142, .y 143, .y 144, .y 145, .y 146, .y 147, .y 148, .y 149, .y 150, .y 151, .y 152, .y 153, .y 154, .y 155, .y 156, .y 157, .y 158, .y 159, .y 160, .y 161, .y 162, .y 163, .y 164, .y 165, .y 166, .y 167, .y 168, .y 169, .y 170, .y 171, .y 172, .y 173, .y 174, .y 175, .y 176, .y 177, .y 178, .y 179, .y 180, .y 181, .y 182, .y 183, .y 184, .k, .k, .k, .k, .k, .k, .k, .k, .k, .k, .k, .k, .k, .k, .k, .k, .k, .k, .k, .k, .k, .k, .k, .k, .k, .k, .k, .k, .k, .k, .k, .k, .k, .k, .k, .k, .k, .k, .k, .k, .k, .k, .k, .k, .k, .k, .k, .k, .k, .k, .k, .k, .k, .k, .k, .k, .k, .k, .k, .k, .k, .k, .k, .k, .k, .k, .k, .k, .k, .k, .k, .k, .k, .k, .k, .k, .k, .k, .k, .k, .k, .k, .k, .k, .k, .k, .k, .k, .k, .k, .k, .k, .k, .k, .k, .k] 13 11 0 0 (by decide +kernel) rfl (fun x13 x11 _ _ wr => ∃ (m : Nat) (b : Bool) (fs : List Fld) (Af : Option Addr) (cf : Nat), base + m ≤ P2.length ∧ x13 = .int .i64 ((base + m : Nat) : Int) ∧ x11 = .bool b ∧ Hid (KS w3 a O Ao co fs Af cf wr) ∧ fs.length ≤ m ∧ Hid (b = true → O.all wordB = true ∧ fldsP ((P2.drop base).take m) = some fs) ∧ Hid (b = false → readKndL P2 = none)) (fun x13 _ _ _ _ => P2.length - (intOf x13).toNat) _ _ _ _ rfl rfl rfl rfl
            case start => exact ⟨0, O.all wordB, [], none, 0, p1, rfl, rfl, HKS, Nat.le_refl _, fun h => ⟨h, rfl⟩, HP2.out⟩
            case round =>
              -- a round: the names u13 u11 _ _ (four), the world's name
              intro ff u13 u11 _ _ wr hrel
              dsimp only [spread]
              clear HKS
              obtain ⟨m, b, fs, Af, cf, hm, rfl, rfl, HKS, hfm, HB1, HB2⟩ := hrel
              obtain ⟨wk, hwk⟩ : ∃ x : World, x = wr := ⟨_, rfl⟩
              subst hwk
              obtain ⟨at', hat⟩ : ∃ x, x = base + m := ⟨_, rfl⟩
              have HAT := Lib.hid hat
              have hfl : fs.length ≤ 1048577 := by go_light; omega
              rw [← hat] at hm ⊢
              clear hat
              by_cases hml : at' < P2.length
              case neg =>
                have hml' : ¬ (at' : Int) < (P2.length : Int) := fun h => hml (Int.ofNat_lt.1 h)
                have HX1 : Hid (b = true → readKndL P2 = some ⟨bs a, O.map bs, fs⟩) := fun h => by
                  obtain ⟨h1, h2⟩ := HB1.out h
                  rw [List.take_of_length_le (by have := HAT.out; rw [List.length_drop]; go_light; omega)] at h2
                  exact (HP3.out h1).2 fs h2
                clear hml
                go_wp2_with fail
                -- a way's end
                refine Met.intro ?_
                go_step
                refine Forgot.at _ _ _ _ _ rfl rfl rfl rfl rfl rfl ?_
                exact ⟨b, fs, Af, cf, rfl, HKS, hfl, HX1, HB2⟩
              have hml' : (at' : Int) < (P2.length : Int) := Int.ofNat_lt.2 hml
              cases b with
              | false =>
                go_wp2_with fail
                -- a way's end
                refine Met.intro ?_
                go_step
                refine Forgot.at _ _ _ _ _ rfl rfl rfl rfl rfl rfl ?_
                exact ⟨false, fs, Af, cf, rfl, HKS, hfl, (fun h => by cases h), fun _ => HB2.out trivial⟩
              | true =>
                obtain ⟨y, hy⟩ : ∃ y, P2[at']? = some y := ⟨_, List.getElem?_eq_getElem hml⟩
                obtain ⟨gw', ow', hA, hys, c0⟩ := str_at (HSW.out.below HKS.out.bel) (k := at') (d := bs y) (by rw [List.getElem?_map, hy]; rfl)
                injection hA with hA
                injection hA with e1 e2
                subst e1
                subst e2
                have hcall := rcut_any (bs y) 58 (by decide) false wk hys
                rw [rcut_plain (by decide), bs_list, show (Value.int .u8 ((58 : UInt8).toNat : Int)) = .int .u8 58 from rfl] at hcall
                obtain ⟨u1, _⟩ := split_len 58 _ y (Nat.le_refl _)
                have hyl : y.length ≤ 1048576 := HPL2.out y (List.mem_of_getElem? hy)
                obtain ⟨P3, hP3⟩ : ∃ P3, Lib.split y [58] = P3 := ⟨_, rfl⟩
                rw [hP3] at hcall u1
                have HPL3 : Hid (∀ z ∈ P3, z.length ≤ 1048576) := fun z hz => Nat.le_trans (u1 z hz) hyl
                have HS3 := Lib.hid hP3
                have HFS : Hid ((readFldL y = none → readKndL P2 = none) ∧ ∀ f, readFldL y = some f → fldsP ((P2.drop base).take (m + 1)) = some (fs ++ [f])) := by
                  obtain ⟨h1, h2⟩ := HB1.out rfl
                  obtain ⟨t1, t2⟩ := fldsP_step h2 (by rw [← HAT.out]; exact hy)
                  exact ⟨fun h => (HP3.out h1).1 (t1 h), t2⟩
                have HOA : Hid (O.all wordB = true) := (HB1.out rfl).1
                clear u1 hyl hP3 hy HB1 HB2
                go_wp2_with fail
                refine hcall.mono ?_
                clear hcall c0
                rintro e w9 ⟨Ap, cp, rfl, hp, hb⟩
                have HKS := Lib.hid (HKS.out.below hb)
                have HS9 := Lib.hid (own_words hp HPL3.out)
                clear hb hp
                by_cases h2 : P3.length = 2
                case neg =>
                  have h2p : ¬ (P3.length : Int) = 2 := fun h => h2 (by go_light; omega)
                  have h2b : ((P3.length : Int) == 2) = false := beq_eq_false_iff_ne.2 h2p
                  have HN : Hid (readKndL P2 = none) := HFS.out.1 ((fld_split y).2 (by rw [HS3.out]; exact h2))
                  clear h2
                  go_wp2_with fail
                  -- a way's end
                  refine Met.intro ?_
                  go_step
                  refine Forgot.at _ _ _ _ _ rfl rfl rfl rfl rfl rfl ?_
                  exact ⟨false, fs, Af, cf, rfl, HKS, hfl, (fun h => by cases h), fun _ => HN.out⟩
                obtain ⟨n, t, rfl⟩ := two_parts h2
                clear h2
                obtain ⟨gp, op, hA, hns, c0⟩ := str_at HS9.out (k := 0) (d := bs n) rfl
                subst hA
                obtain ⟨gp', op', hA, hts, c1'⟩ := str_at HS9.out (k := 1) (d := bs t) rfl
                injection hA with hA
                injection hA with e1 e2
                subst e1
                subst e2
                rw [Nat.add_zero] at c0
                rw [show ([n, t] : List (List UInt8)).length = 2 from rfl]
                have hcall := rwd_any (bs n) hns w9
                rw [bs_list] at hcall
                have HFN := Lib.hid (fun (h : wordB n = false) => fld_not HS3.out h)
                have HFO := Lib.hid (fun (h : wordB n = true) => fld_of HS3.out h)
                have HNS := Lib.hid hns
                have HTS := Lib.hid hts
                generalize wordB n = bn at *
                have C0 := Lib.hid c0
                have C1 := Lib.hid c1'
                clear hns hts c1' HPL3 HS3 HS9
                go_wp2_with fail
                refine hcall.mono ?_
                clear hcall c0
                rintro e wa ⟨rfl, hb⟩
                have HKS := Lib.hid (HKS.out.below hb)
                have c0 := cell_below hb C0.out
                have C1 := Lib.hid (cell_below hb C1.out)
                clear hb C0
                cases bn with
                | false =>
                  have HN : Hid (readKndL P2 = none) := HFS.out.1 (HFN.out rfl)
                  go_wp2_with fail
                  -- a way's end
                  refine Met.intro ?_
                  go_step
                  refine Forgot.at _ _ _ _ _ rfl rfl rfl rfl rfl rfl ?_
                  exact ⟨false, fs, Af, cf, rfl, HKS, hfl, (fun h => by cases h), fun _ => HN.out⟩
                | true =>
                have HF1 := Lib.hid (HFO.out rfl).1
                have HF2 := Lib.hid (HFO.out rfl).2
                have hba : Below wa.heap.size wa (wa.alloc (.cells #[.string (bs n), .int .i64 0, .bool false, .bool false] 61)) := (Below.refl _ _).alloc (Nat.le_refl _) _
                have HFB := Lib.hid (heap_alloc_new wa (.cells #[.string (bs n), .int .i64 0, .bool false, .bool false] 61))
                have HQL : Hid (w3.heap.size < wa.heap.size) := (Array.getElem?_eq_some_iff.1 HKS.out.kb).1
                have HNE : Hid (some wa.heap.size ≠ (Value.slice Af fs.length cf).ownBlock) := fun e => Nat.lt_irrefl _ (HKS.out.of.lt _ e.symm).2
                have HKS := Lib.hid (HKS.out.below hba)
                have C1 := Lib.hid (cell_below hba C1.out)
                clear hba HFN HFO
                go_upto_region 28 with fail
                generalize wa.alloc (.cells #[.string (bs n), .int .i64 0, .bool false, .bool false] 61) = wb at *
                generalize wa.heap.size = q at *
                clear c0
                have c1' := C1.out
                go_upto_region 29 with fail
                clear c1' C1
                -- a cut: the mask [.k, .k, .k, .k, .k, .k, .k, .k, .k, .k, .k, .k, .k, .k, .k, .k, .k, .k, .k, .k, .k, .k, .k, .k, .k, .k, .k, .k, .k, .k, .k, .k, .k, .k, .k, .k, .k, .k, .k, .k, .k, .k, .k, .k, .k, .k, .k, .k, .k, .k, .k, .k, .k, .k, .k, .k, .k, .k, .k, .k, .k, .k, .k, .k, .k, .k, .k, .k, .k, .k, .k, .k, .k, .k, .k, .k, .k, .k, .k, .k, .k, .k, .k, .k, .k, .k, .k, .k, .k, .k, .k, .k, .k, .k, .k, .k, .k, .k, .k, .k, .k, .k, .k, .k, .k, .k, .k, .k, .k, .k, .k, .k, .k, .k, .k, .k, .k, .k, .k, .k, .k, .k, .k, .k, .k, .k, .k, .k, .k, .k, .k, .k, .k, .y 133, .y 134, .y 135, .y 136, .y 137, .y 138, .y 139, .y 140, .y 141, .y 142, .y 143, .y 144, .y 145, .y 146, .y 147, .y 148, .y 149, .a, .k, .k, .k, .k, .k, .k, .k, .k, .k, .k, .k, .k, .k, .k, .k, .k, .k, .k, .k, .k, .k, .k, .k, .k, .k, .k, .k, .k, .k, .k, .k, .k, .k, .k, .k, .k, .k, .k, .k, .k, .k, .k, .k, .k, .k, .k, .k, .k, .k, .k, .k, .k, .k, .k, .k, .k, .k, .k, .k, .k, .k, .k, .k, .k, .k, .k, .k, .k, .k, .k, .k, .k, .k, .k, .k, .k, .k, .k, .k, .k, .k, .k, .k, .k, .k, .k, .k, .k, .k, .k, .k, .k, .k, .k, .k, .k, .k, .k, .k, .k, .k, .k, .k, .k, .k, .k, .k, .k, .k, .k, .k, .k, .k, .k, .k, .k, .k, .k, .k, .k, .k, .k, .k, .k, .k, .k, .k, .k, .k, .k], the slots 150 0 0 0, the relation fun v _ _ _ wx => v = .bool (signB t).1 ∧ wx = wb
                apply wp_cutm [.k, .k, .k, .k, .k, .k, .k, .k, .k, .k, .k, .k, .k, .k, .k, .k, .k, .k, .k, .k, .k, .k, .k, .k, .k, .k, .k, .k, .k, .k, .k, .k, .k, .k, .k, .k, .k, .k, .k, .k, .k, .k, .k, .k, .k, .k, .k, .k, .k, .k, .k, .k, .k, .k, .k, .k, .k, .k, .k, .k, .k, .k, .k, .k, .k, .k, .k, .k, .k, .k, .k, .k, .k, .k, .k, .k, .k, .k, .k, .k, .k, .k, .k, .k, .k, .k, .k, .k, .k, .k, .k, .k, .k, .k, .k, .k, .k, .k, .k, .k, .k, .k, .k, .k, .k, .k, .k, .k, .k, .k, .k, .k, .k, .k, .k, .k, .k, .k, .k, .k, .k, .k, .k, .k, .k, .k, .k, .k, .k, .k, .k, .k, .k, .y 133, .y 134, .y 135, .y 136, .y 137, .y 138, .y 139, .y 140, .y 141, .y 142, .y 143, .y 144, .y 145, .y 146, .y 147, .y 148, .y 149, .a, .k, .k, .k, .k, .k, .k, .k, .k, .k, .k, .k, .k, .k, .k, .k, .k, .k, .k, .k, .k, .k, .k, .k, .k, .k, .k, .k, .k, .k, .k, .k, .k, .k, .k, .k, .k, .k, .k, .k, .k, .k, .k, .k, .k, .k, .k, .k, .k, .k, .k, .k, .k, .k, .k, .k, .k, .k, .k, .k, .k, .k, .k, .k, .k, .k, .k, .k, .k, .k, .k, .k, .k, .k, .k, .k, .k, .k, .k, .k, .k, .k, .k, .k, .k, .k, .k, .k, .k, .k, .k, .k, .k, .k, .k, .k, .k, .k, .k, .k, .k, .k, .k, .k, .k, .k, .k, .k, .k, .k, .k, .k, .k, .k, .k, .k, .k, .k, .k, .k, .k, .k, .k, .k, .k, .k, .k, .k, .k, .k, .k] 150 0 0 0 (by decide +kernel) (fun v _ _ _ wx => v = .bool (signB t).1 ∧ wx = wb)
                case first =>
                  -- within a cut
                  intro JJ KK hmeet hnext
                  -- of what is to be done behind only the innermost is kept
                  rename ∀ (a : Act) (w : World), Code.wp _ _ _ a w → _ => hkeep
                  revert hkeep
                  repeat (rename ∀ (a : Act) (w : World), Code.wp _ _ _ a w → _ => hz; clear hz)
                  intro hkeep
                  rcases List.eq_nil_or_concat t with ht | ⟨r, c, ht⟩
                  · have d1 : (bs t).toList = [] := by rw [ht]; decide +kernel
                    have d2 : ((bs t).toList == []) = true := by rw [d1]; rfl
                    have d3 : ((bs t).toList != []) = false := by rw [d1]; rfl
                    have d4 : (bs t).toList.isEmpty = true := by rw [d1]; rfl
                    have HD : Hid ((signB t).1 = false) := by rw [ht, signB_nil]; rfl
                    clear ht
                    go_wp2_with fail
                    -- a way's end
                    refine Met.intro ?_
                    go_step
                    refine Forgot.at _ _ _ _ _ rfl rfl rfl rfl rfl rfl ?_
                    exact ⟨by rw [HD.out], rfl⟩
                  · rw [List.concat_eq_append] at ht
                    obtain ⟨nn, hnn⟩ : ∃ nn, nn = r.length := ⟨_, rfl⟩
                    have hXs : (bs t).size = nn + 1 := by rw [bs_size, ht, hnn]; simp
                    have hnl : nn < (bs t).size := by rw [hXs]; exact Nat.lt_succ_self _
                    have hXb : (bs t)[nn] = c := by
                      have e := bytes_at (bs t) nn hnl
                      have e2 : (r ++ [c])[nn]? = some c := by rw [hnn, List.getElem?_append_right (Nat.le_refl _)]; simp
                      rw [show (bs t).data.toList = r ++ [c] by rw [bs_list, ht], e2] at e
                      injection e with e
                      exact e.symm
                    have d1 : ¬ (bs t).toList = [] := by rw [str_nil, ht]; simp
                    have d2 : ((bs t).toList == []) = false := beq_eq_false_iff_ne.2 d1
                    have d3 : ((bs t).toList != []) = true := bne_iff_ne.2 d1
                    have d4 : (bs t).toList.isEmpty = false := List.isEmpty_eq_false_iff.2 d1
                    have HSB := Lib.hid (signB_snoc r c)
                    rw [← ht] at HSB
                    have hnl' : (nn : Int) < ((bs t).size : Int) := Int.ofNat_lt.2 hnl
                    have hXs2 : ((bs t).size : Int) - 1 = (nn : Int) := by rw [hXs]; simp
                    have hnb : nn ≤ 1048576 := Nat.le_trans (Nat.le_of_lt hnl) HTS.out
                    have w1 : IntKind.i64.wrap (((bs t).size : Int) - 1) = (nn : Int) := by rw [hXs2]; exact IntWalk.i64_in _ (by go_light; omega)
                    have a1 : (0 : Int) ≤ (nn : Int) := Int.natCast_nonneg nn
                    have a2 : ¬ (nn : Int) < 0 := Int.not_lt.2 a1
                    have hnl3 : (nn : Int) ≤ ((bs t).size : Int) := Int.le_of_lt hnl'
                    clear hnn ht hXs
                    by_cases h33 : c = 33
                    · have f1 : ((bs t)[nn].toNat : Int) = 33 := by rw [hXb, h33]; rfl
                      have f2 : (((bs t)[nn].toNat : Int) == 33) = true := by rw [f1]; rfl
                      have HD : Hid ((signB t).1 = true) := by rw [HSB.out, if_pos h33]; rfl
                      clear h33 hXb HSB
                      go_wp2_with fail
                      -- a way's end
                      refine Met.intro ?_
                      go_step
                      refine Forgot.at _ _ _ _ _ rfl rfl rfl rfl rfl rfl ?_
                      exact ⟨by rw [HD.out], rfl⟩
                    · have f1 : ¬ ((bs t)[nn].toNat : Int) = 33 := fun e => h33 (by rw [← hXb]; exact UInt8.toNat_inj.1 (Int.ofNat_inj.1 e))
                      have f2 : (((bs t)[nn].toNat : Int) == 33) = false := beq_eq_false_iff_ne.2 f1
                      by_cases h42 : c = 42
                      · have f3 : ((bs t)[nn].toNat : Int) = 42 := by rw [hXb, h42]; rfl
                        have f4 : (((bs t)[nn].toNat : Int) == 42) = true := by rw [f3]; rfl
                        have HD : Hid ((signB t).1 = true) := by rw [HSB.out, if_neg h33, if_pos h42]; rfl
                        clear h33 h42 hXb HSB f3
                        go_wp2_with fail
                        -- a way's end
                        refine Met.intro ?_
                        go_step
                        refine Forgot.at _ _ _ _ _ rfl rfl rfl rfl rfl rfl ?_
                        exact ⟨by rw [HD.out], rfl⟩
                      · have f3 : ¬ ((bs t)[nn].toNat : Int) = 42 := fun e => h42 (by rw [← hXb]; exact UInt8.toNat_inj.1 (Int.ofNat_inj.1 e))
                        have f4 : (((bs t)[nn].toNat : Int) == 42) = false := beq_eq_false_iff_ne.2 f3
                        have HD : Hid ((signB t).1 = false) := by rw [HSB.out, if_neg h33, if_neg h42]; rfl
                        clear h33 h42 hXb HSB
                        go_wp2_with fail
                        -- a way's end
                        refine Met.intro ?_
                        go_step
                        refine Forgot.at _ _ _ _ _ rfl rfl rfl rfl rfl rfl ?_
                        exact ⟨by rw [HD.out], rfl⟩
                case rest =>
                -- behind a cut: the names of the slots' values u150 _ _ _ (four)
                intro ff u150 _ _ _ wc hcut
                dsimp only [spread]
                obtain ⟨rfl, hw⟩ := hcut
                obtain ⟨wd, hwd⟩ : ∃ x : World, x = wc := ⟨_, rfl⟩
                subst hwd
                rw [← hw] at HFB HKS
                clear hw
                go_upto_if 150 with fail
                -- a cut: the mask [.k, .k, .k, .k, .k, .k, .k, .k, .k, .k, .k, .k, .k, .k, .k, .k, .k, .k, .a, .k, .k, .k, .k, .k, .k, .k, .k, .k, .k, .k, .k, .k, .k, .k, .k, .k, .k, .k, .k, .k, .k, .k, .k, .k, .k, .k, .k, .k, .k, .k, .k, .k, .k, .k, .k, .k, .k, .k, .k, .k, .k, .k, .k, .k, .k, .k, .k, .k, .k, .k, .k, .k, .k, .k, .k, .k, .k, .k, .k, .k, .k, .k, .k, .k, .k, .k, .k, .k, .k, .k, .k, .k, .k, .k, .k, .k, .k, .k, .k, .k, .k, .k, .k, .k, .k, .k, .k, .k, .k, .k, .k, .k, .k, .k, .k, .k, .k, .k, .k, .k, .k, .k, .k, .k, .k, .k, .k, .k, .k, .k, .k, .k, .k, .k, .k, .k, .k, .k, .k, .k, .k, .k, .k, .k, .k, .k, .k, .k, .k, .k, .y 150, .y 151, .y 152, .y 153, .y 154, .y 155, .y 156, .y 157, .y 158, .y 159, .y 160, .y 161, .y 162, .y 163, .k, .k, .k, .k, .k, .k, .k, .k, .k, .k, .k, .k, .k, .k, .k, .k, .k, .k, .k, .k, .k, .k, .k, .k, .k, .k, .k, .k, .k, .k, .k, .k, .k, .k, .k, .k, .k, .k, .k, .k, .k, .k, .k, .k, .k, .k, .k, .k, .k, .k, .k, .k, .k, .k, .k, .k, .k, .k, .k, .k, .k, .k, .k, .k, .k, .k, .k, .k, .k, .k, .k, .k, .k, .k, .k, .k, .k, .k, .k, .k, .k, .k, .k, .k, .k, .k, .k, .k, .k, .k, .k, .k, .k, .k, .k, .k, .k, .k, .k, .k, .k, .k, .k, .k, .k, .k, .k, .k, .k, .k, .k, .k, .k, .k, .k, .k, .k], the slots 18 0 0 0, the relation fun v _ _ _ wx => v = .string (bs (signB t).2.2) ∧ Hid (KS w3 a O Ao co fs Af cf wx) ∧ Hid (wx.heap[q]? = some (.cells #[.string (bs n), .int .i64 0, .bool (signB t).1, .bool (signB t).2.1] 61 (0, 0)))
                apply wp_cutm [.k, .k, .k, .k, .k, .k, .k, .k, .k, .k, .k, .k, .k, .k, .k, .k, .k, .k, .a, .k, .k, .k, .k, .k, .k, .k, .k, .k, .k, .k, .k, .k, .k, .k, .k, .k, .k, .k, .k, .k, .k, .k, .k, .k, .k, .k, .k, .k, .k, .k, .k, .k, .k, .k, .k, .k, .k, .k, .k, .k, .k, .k, .k, .k, .k, .k, .k, .k, .k, .k, .k, .k, .k, .k, .k, .k, .k, .k, .k, .k, .k, .k, .k, .k, .k, .k, .k, .k, .k, .k, .k, .k, .k, .k, .k, .k, .k, .k, .k, .k, .k, .k, .k, .k, .k, .k, .k, .k, .k, .k, .k, .k, .k, .k, .k, .k, .k, .k, .k, .k, .k, .k, .k, .k, .k, .k, .k, .k, .k, .k, .k, .k, .k, .k, .k, .k, .k, .k, .k, .k, .k, .k, .k, .k, .k, .k, .k, .k, .k, .k, .y 150, .y 151, .y 152, .y 153, .y 154, .y 155, .y 156, .y 157, .y 158, .y 159, .y 160, .y 161, .y 162, .y 163, .k, .k, .k, .k, .k, .k, .k, .k, .k, .k, .k, .k, .k, .k, .k, .k, .k, .k, .k, .k, .k, .k, .k, .k, .k, .k, .k, .k, .k, .k, .k, .k, .k, .k, .k, .k, .k, .k, .k, .k, .k, .k, .k, .k, .k, .k, .k, .k, .k, .k, .k, .k, .k, .k, .k, .k, .k, .k, .k, .k, .k, .k, .k, .k, .k, .k, .k, .k, .k, .k, .k, .k, .k, .k, .k, .k, .k, .k, .k, .k, .k, .k, .k, .k, .k, .k, .k, .k, .k, .k, .k, .k, .k, .k, .k, .k, .k, .k, .k, .k, .k, .k, .k, .k, .k, .k, .k, .k, .k, .k, .k, .k, .k, .k, .k, .k, .k] 18 0 0 0 (by decide +kernel) (fun v _ _ _ wx => v = .string (bs (signB t).2.2) ∧ Hid (KS w3 a O Ao co fs Af cf wx) ∧ Hid (wx.heap[q]? = some (.cells #[.string (bs n), .int .i64 0, .bool (signB t).1, .bool (signB t).2.1] 61 (0, 0))))
                case first =>
                  -- within a cut
                  intro JJ KK hmeet hnext
                  -- of what is to be done behind only the innermost is kept
                  rename ∀ (a : Act) (w : World), Code.wp _ _ _ a w → _ => hkeep
                  revert hkeep
                  repeat (rename ∀ (a : Act) (w : World), Code.wp _ _ _ a w → _ => hz; clear hz)
                  intro hkeep
                  rcases List.eq_nil_or_concat t with ht | ⟨r, c, ht⟩
                  · have HD : Hid (signB t = (false, false, t)) := by rw [ht, signB_nil]; rfl
                    rw [HD.out]
                    clear ht
                    go_wp2_with fail
                    -- a way's end
                    refine Met.intro ?_
                    go_step
                    refine Forgot.at _ _ _ _ _ rfl rfl rfl rfl rfl rfl ?_
                    exact ⟨by rw [HD.out], HKS, by rw [HD.out]; exact HFB⟩
                  · rw [List.concat_eq_append] at ht
                    by_cases h3 : c = 33 ∨ c = 42
                    case neg =>
                      have HD : Hid (signB t = (false, false, t)) := by rw [ht, signB_snoc, if_neg (fun e => h3 (.inl e)), if_neg (fun e => h3 (.inr e))]; rfl
                      rw [HD.out]
                      clear ht
                      go_wp2_with fail
                      -- a way's end
                      refine Met.intro ?_
                      go_step
                      refine Forgot.at _ _ _ _ _ rfl rfl rfl rfl rfl rfl ?_
                      exact ⟨by rw [HD.out], HKS, by rw [HD.out]; exact HFB⟩
                    have HD : Hid (signB t = (true, decide (c = 42), r)) := by
                      rw [ht, signB_snoc]
                      rcases h3 with h3 | h3
                      · rw [if_pos h3, h3]; rfl
                      · rw [if_neg (by rw [h3]; decide), if_pos h3, h3]; rfl
                    obtain ⟨nn, hnn⟩ : ∃ nn, nn = r.length := ⟨_, rfl⟩
                    have hXs : (bs t).size = nn + 1 := by rw [bs_size, ht, hnn]; simp
                    have hnl : nn < (bs t).size := by rw [hXs]; exact Nat.lt_succ_self _
                    have hXb : (bs t)[nn] = c := by
                      have e := bytes_at (bs t) nn hnl
                      have e2 : (r ++ [c])[nn]? = some c := by rw [hnn, List.getElem?_append_right (Nat.le_refl _)]; simp
                      rw [show (bs t).data.toList = r ++ [c] by rw [bs_list, ht], e2] at e
                      injection e with e
                      exact e.symm
                    have hnl' : (nn : Int) < ((bs t).size : Int) := Int.ofNat_lt.2 hnl
                    have hnl2 : (nn : Int) ≤ ((bs t).size : Int) := Int.le_of_lt hnl'
                    have hXs2 : ((bs t).size : Int) - 1 = (nn : Int) := by rw [hXs]; simp
                    have hnb : nn ≤ 1048576 := Nat.le_trans (Nat.le_of_lt hnl) HTS.out
                    have w1 : IntKind.i64.wrap (((bs t).size : Int) - 1) = (nn : Int) := by rw [hXs2]; exact IntWalk.i64_in _ (by go_light; omega)
                    have a1 : (0 : Int) ≤ (nn : Int) := Int.natCast_nonneg nn
                    have a2 : ¬ (nn : Int) < 0 := Int.not_lt.2 a1
                    have hnl3 : (nn : Int) ≤ ((bs t).size : Int) := Int.le_of_lt hnl'
                    have HSL : Hid ((bs t).extract 0 nn = bs r) := by
                      unfold Hid; rw [ext_list, List.drop_zero, Nat.sub_zero, bs_list, ht, hnn, List.take_left]
                    have f1 : (((bs t)[nn].toNat : Int) == 42) = decide (c = 42) := by
                      rw [hXb]
                      by_cases h4 : c = 42
                      · rw [decide_eq_true h4, h4]; rfl
                      · rw [decide_eq_false h4]; exact beq_eq_false_iff_ne.2 (fun e => h4 (UInt8.toNat_inj.1 (Int.ofNat_inj.1 e)))
                    have x2 := block_cell HFB.out 2
                    have x3 := block_cell HFB.out 3
                    have y2 := block_free HFB.out 2
                    have y3 := block_free HFB.out 3
                    have HK1 := Lib.hid (KS.setF HKS.out HFB.out HQL.out HNE.out 2 (.bool true))
                    have HF1' := Lib.hid (setCell_block HFB.out 2 (.bool true))
                    have HK2 := Lib.hid (KS.setF HK1.out HF1'.out HQL.out HNE.out 3 (.bool (decide (c = 42))))
                    have HF2' := Lib.hid (setCell_block HF1'.out 3 (.bool (decide (c = 42))))
                    rw [HD.out]
                    clear hnn ht hXs h3 hXb
                    go_wp2_with fail
                    -- a way's end
                    refine Met.intro ?_
                    go_step
                    refine Forgot.at _ _ _ _ _ rfl rfl rfl rfl rfl rfl ?_
                    exact ⟨by rw [HD.out, HSL.out], HK2, by rw [HD.out]; exact HF2'⟩
                case rest =>
                -- behind a cut: the names of the slots' values u18 _ _ _ (four)
                intro ff u18 _ _ _ wc hcut
                dsimp only [spread]
                obtain ⟨we, hwe⟩ : ∃ x : World, x = wc := ⟨_, rfl⟩
                subst hwe
                clear HKS HFB
                obtain ⟨rfl, HKS, HFB⟩ := hcut
                generalize (signB t).1 = mu at *
                generalize (signB t).2.1 = ke at *
                generalize (signB t).2.2 = tl at *
                go_upto_block 6 with fail
                -- a cut: the mask [.k, .k, .k, .k, .k, .k, .k, .k, .k, .k, .k, .k, .k, .k, .k, .k, .k, .k, .k, .y 19, .k, .k, .k, .k, .k, .k, .k, .k, .k, .k, .k, .k, .k, .k, .k, .k, .k, .k, .k, .k, .k, .k, .k, .k, .k, .k, .k, .k, .k, .k, .k, .k, .k, .k, .k, .k, .k, .k, .k, .k, .k, .k, .k, .k, .k, .k, .k, .k, .k, .k, .k, .k, .k, .k, .k, .k, .k, .k, .k, .k, .k, .k, .k, .k, .k, .k, .k, .k, .k, .k, .k, .k, .k, .k, .k, .k, .k, .k, .k, .k, .k, .k, .k, .k, .k, .k, .k, .k, .k, .k, .k, .k, .k, .k, .k, .k, .k, .k, .k, .k, .k, .k, .k, .k, .k, .k, .k, .k, .k, .k, .k, .k, .k, .k, .k, .k, .k, .k, .k, .k, .k, .k, .k, .k, .k, .k, .k, .k, .k, .k, .k, .k, .k, .k, .k, .k, .k, .k, .k, .k, .k, .k, .k, .k, .y 164, .y 165, .y 166, .y 167, .y 168, .y 169, .y 170, .y 171, .y 172, .y 173, .y 174, .y 175, .k, .k, .k, .k, .k, .k, .k, .k, .k, .k, .k, .k, .k, .k, .k, .k, .k, .k, .k, .k, .k, .k, .k, .k, .k, .k, .k, .k, .k, .k, .k, .k, .k, .k, .k, .k, .k, .k, .k, .k, .k, .k, .k, .k, .k, .k, .k, .k, .k, .k, .k, .k, .k, .k, .k, .k, .k, .k, .k, .k, .k, .k, .k, .k, .k, .k, .k, .k, .k, .k, .k, .k, .k, .k, .k, .k, .k, .k, .k, .k, .k, .k, .k, .k, .k, .k, .k, .k, .k, .k, .k, .k, .k, .k, .k, .k, .k, .k, .k, .k, .k, .k, .k, .k, .k], the slots 0 0 0 0, the relation fun _ _ _ _ wx => Hid (KS w3 a O Ao co fs Af cf wx) ∧ Hid (wx.heap[q]? = some (.cells #[.string (bs n), .int .i64 (typM tl), .bool mu, .bool ke] 61 (0, 0)))
                apply wp_cutm [.k, .k, .k, .k, .k, .k, .k, .k, .k, .k, .k, .k, .k, .k, .k, .k, .k, .k, .k, .y 19, .k, .k, .k, .k, .k, .k, .k, .k, .k, .k, .k, .k, .k, .k, .k, .k, .k, .k, .k, .k, .k, .k, .k, .k, .k, .k, .k, .k, .k, .k, .k, .k, .k, .k, .k, .k, .k, .k, .k, .k, .k, .k, .k, .k, .k, .k, .k, .k, .k, .k, .k, .k, .k, .k, .k, .k, .k, .k, .k, .k, .k, .k, .k, .k, .k, .k, .k, .k, .k, .k, .k, .k, .k, .k, .k, .k, .k, .k, .k, .k, .k, .k, .k, .k, .k, .k, .k, .k, .k, .k, .k, .k, .k, .k, .k, .k, .k, .k, .k, .k, .k, .k, .k, .k, .k, .k, .k, .k, .k, .k, .k, .k, .k, .k, .k, .k, .k, .k, .k, .k, .k, .k, .k, .k, .k, .k, .k, .k, .k, .k, .k, .k, .k, .k, .k, .k, .k, .k, .k, .k, .k, .k, .k, .k, .y 164, .y 165, .y 166, .y 167, .y 168, .y 169, .y 170, .y 171, .y 172, .y 173, .y 174, .y 175, .k, .k, .k, .k, .k, .k, .k, .k, .k, .k, .k, .k, .k, .k, .k, .k, .k, .k, .k, .k, .k, .k, .k, .k, .k, .k, .k, .k, .k, .k, .k, .k, .k, .k, .k, .k, .k, .k, .k, .k, .k, .k, .k, .k, .k, .k, .k, .k, .k, .k, .k, .k, .k, .k, .k, .k, .k, .k, .k, .k, .k, .k, .k, .k, .k, .k, .k, .k, .k, .k, .k, .k, .k, .k, .k, .k, .k, .k, .k, .k, .k, .k, .k, .k, .k, .k, .k, .k, .k, .k, .k, .k, .k, .k, .k, .k, .k, .k, .k, .k, .k, .k, .k, .k, .k] 0 0 0 0 (by decide +kernel) (fun _ _ _ _ wx => Hid (KS w3 a O Ao co fs Af cf wx) ∧ Hid (wx.heap[q]? = some (.cells #[.string (bs n), .int .i64 (typM tl), .bool mu, .bool ke] 61 (0, 0))))
                case first =>
                  -- within a cut
                  intro JJ KK hmeet hnext
                  -- of what is to be done behind only the innermost is kept
                  rename ∀ (a : Act) (w : World), Code.wp _ _ _ a w → _ => hkeep
                  revert hkeep
                  repeat (rename ∀ (a : Act) (w : World), Code.wp _ _ _ a w → _ => hz; clear hz)
                  intro hkeep
                  go_wp2_with fail
                  -- a loop: the mask [.k, .k, .k, .k, .k, .k, .k, .k, .k, .k, .k, .k, .k, .k, .k, .k, .k, .k, .k, .a, .k, .k, .k, .k, .k, .k, .k, .k, .k, .k, .k, .k, .k, .k, .k, .k, .k, .k, .k, .k, .k, .k, .k, .k, .k, .k, .k, .k, .k, .k, .k, .k, .k, .k, .k, .k, .k, .k, .k, .k, .k, .k, .k, .k, .k, .k, .k, .k, .k, .k, .k, .k, .k, .k, .k, .k, .k, .k, .k, .k, .k, .k, .k, .k, .k, .k, .k, .k, .k, .k, .k, .k, .k, .k, .k, .k, .k, .k, .k, .k, .k, .k, .k, .k, .k, .k, .k, .k, .k, .k, .k, .k, .k, .k, .k, .k, .k, .k, .k, .k, .k, .k, .k, .k, .k, .k, .k, .k, .k, .k, .k, .k, .k, .k, .k, .k, .k, .k, .k, .k, .k, .k, .k, .k, .k, .k, .k, .k, .k, .k, .k, .k, .k, .k, .k, .k, .k, .k, .k, .k, .k, .k, .k, .k, .y 164, .y 165, .y 166, .y 167, .y 168, .y 169, .y 170, .y 171, .y 172, .y 173, .y 174, .y 175, .k, .k, .k, .k, .k, .k, .k, .k, .k, .k, .k, .k, .k, .k, .k, .k, .k, .k, .k, .k, .k, .k, .k, .k, .k, .k, .k, .k, .k, .k, .k, .k, .k, .k, .k, .k, .k, .k, .k, .k, .k, .k, .k, .k, .k, .k, .k, .k, .k, .k, .k, .k, .k, .k, .k, .k, .k, .k, .k, .k, .k, .k, .k, .k, .k, .k, .k, .k, .k, .k, .k, .k, .k, .k, .k, .k, .k, .k, .k, .k, .k, .k, .k, .k, .k, .k, .k, .k, .k, .k, .k, .k, .k, .k, .k, .k, .k, .k, .k, .k, .k, .k, .k, .k, .k], the slots 19 0 0 0, the relation fun x19 _ _ _ wr => ∃ j : Nat, 1 ≤ j ∧ j ≤ 4 ∧ x19 = .int .i64 (j : Int) ∧ Hid (KS w3 a O Ao co fs Af cf wr) ∧ Hid (wr.heap[q]? = some (.cells #[.string (bs n), .int .i64 (typJ tl j), .bool mu, .bool ke] 61 (0, 0))), the measure fun x19 _ _ _ _ => 4 - (intOf x19).toNat
                  apply wp_loopm [.k, .k, .k, .k, .k, .k, .k, .k, .k, .k, .k, .k, .k, .k, .k, .k, .k, .k, .k, .a, .k, .k, .k, .k, .k, .k, .k, .k, .k, .k, .k, .k, .k, .k, .k, .k, .k, .k, .k, .k, .k, .k, .k, .k, .k, .k, .k, .k, .k, .k, .k, .k, .k, .k, .k, .k, .k, .k, .k, .k, .k, .k, .k, .k, .k, .k, .k, .k, .k, .k, .k, .k, .k, .k, .k, .k, .k, .k, .k, .k, .k, .k, .k, .k, .k, .k, .k, .k, .k, .k, .k, .k, .k, .k, .k, .k, .k, .k, .k, .k, .k, .k, .k, .k, .k, .k, .k, .k, .k, .k, .k, .k, .k, .k, .k, .k, .k, .k, .k, .k, .k, .k, .k, .k, .k, .k, .k, .k, .k, .k, .k, .k, .k, .k, .k, .k, .k, .k, .k, .k, .k, .k, .k, .k, .k, .k, .k, .k, .k, .k, .k, .k, .k, .k, .k, .k, .k, .k, .k, .k, .k, .k, .k, .k, .y 164, .y 165, .y 166, .y 167, .y 168, .y 169, .y 170, .y 171, .y 172, .y 173, .y 174, .y 175, .k, .k, .k, .k, .k, .k, .k, .k, .k, .k, .k, .k, .k, .k, .k, .k, .k, .k, .k, .k, .k, .k, .k, .k, .k, .k, .k, .k, .k, .k, .k, .k, .k, .k, .k, .k, .k, .k, .k, .k, .k, .k, .k, .k, .k, .k, .k, .k, .k, .k, .k, .k, .k, .k, .k, .k, .k, .k, .k, .k, .k, .k, .k, .k, .k, .k, .k, .k, .k, .k, .k, .k, .k, .k, .k, .k, .k, .k, .k, .k, .k, .k, .k, .k, .k, .k, .k, .k, .k, .k, .k, .k, .k, .k, .k, .k, .k, .k, .k, .k, .k, .k, .k, .k, .k] 19 0 0 0 (by decide +kernel) rfl (fun x19 _ _ _ wr => ∃ j : Nat, 1 ≤ j ∧ j ≤ 4 ∧ x19 = .int .i64 (j : Int) ∧ Hid (KS w3 a O Ao co fs Af cf wr) ∧ Hid (wr.heap[q]? = some (.cells #[.string (bs n), .int .i64 (typJ tl j), .bool mu, .bool ke] 61 (0, 0)))) (fun x19 _ _ _ _ => 4 - (intOf x19).toNat) _ _ _ _ rfl rfl rfl rfl
                  case start => exact ⟨1, Nat.le_refl _, by decide, rfl, HKS, by rw [typJ_one]; exact HFB⟩
                  case round =>
                    -- a round: the names u19 _ _ _ (four), the world's name
                    intro ff u19 _ _ _ wr hrel
                    dsimp only [spread]
                    clear HKS HFB
                    obtain ⟨j, hj1, hj4, rfl, HKS, HFB⟩ := hrel
                    obtain ⟨wt, hwt⟩ : ∃ x : World, x = wr := ⟨_, rfl⟩
                    subst hwt
                    by_cases hj3 : j ≤ 3
                    case neg =>
                      obtain rfl : j = 4 := by go_light; omega
                      rw [typJ_four] at HFB
                      go_wp2_with fail
                      -- a way's end
                      refine Met.intro ?_
                      go_step
                      refine Forgot.at _ _ _ _ _ rfl rfl rfl rfl rfl rfl ?_
                      exact ⟨HKS, HFB⟩
                    have hj3' : (j : Int) ≤ 3 := by go_light; omega
                    have hj34 : (j : Int) < 4 := by go_light; omega
                    have hj0 : (0 : Int) ≤ (j : Int) := Int.natCast_nonneg j
                    have c0 := wds_at (HSG.out.below HKS.out.bel).wd hj1 hj3
                    by_cases he : tl = typL (j : Int)
                    · rw [← he] at c0
                      have HTJ := Lib.hid (typJ_hit hj1 hj3 he)
                      have x1 := block_cell HFB.out 1
                      have y1 := block_free HFB.out 1
                      have HK1 := Lib.hid (KS.setF HKS.out HFB.out HQL.out HNE.out 1 (.int .i64 (j : Int)))
                      have HF1' := Lib.hid (setCell_block HFB.out 1 (.int .i64 (j : Int)))
                      clear he hj3
                      go_wp2_with fail
                      -- a round's end: the relation, the measure
                      apply Rounded.at _ _ _ _ _ rfl rfl rfl rfl rfl rfl
                      case rel => exact ⟨j + 1, by go_light; omega, by go_light; omega, by go_num, HK1, by rw [HTJ.out]; exact HF1'⟩
                      case measure => go_light; simp [intOf]; omega
                    · have HTJ := Lib.hid (typJ_miss he)
                      have hne : ¬ bs (typL (j : Int)) = bs tl := fun e => he (bs_inj e).symm
                      have hqd : decide (bs (typL (j : Int)) = bs tl) = false := decide_eq_false hne
                      have hqb : ((bs (typL (j : Int))).toList == (bs tl).toList) = false := by rw [bytes_beq]; exact hqd
                      clear he hj3 hne
                      go_wp2_with fail
                      -- a round's end: the relation, the measure
                      apply Rounded.at _ _ _ _ _ rfl rfl rfl rfl rfl rfl
                      case rel => exact ⟨j + 1, by go_light; omega, by go_light; omega, by go_num, HKS, by rw [HTJ.out]; exact HFB⟩
                      case measure => go_light; simp [intOf]; omega
                case rest =>
                -- behind a cut: the names of the slots' values _ _ _ _ (four)
                intro ff _ _ _ _ wc hcut
                dsimp only [spread]
                obtain ⟨wf, hwf⟩ : ∃ x : World, x = wc := ⟨_, rfl⟩
                subst hwf
                clear HKS HFB
                obtain ⟨HKS, HFB⟩ := hcut
                go_upto_region 38 with fail
                -- a cut: the mask [.k, .k, .k, .k, .k, .k, .k, .k, .k, .k, .k, .a, .k, .k, .k, .k, .k, .k, .k, .k, .k, .k, .k, .k, .k, .k, .k, .k, .k, .k, .k, .k, .k, .k, .k, .k, .k, .k, .k, .k, .k, .k, .k, .k, .k, .k, .k, .k, .k, .k, .k, .k, .k, .k, .k, .k, .k, .k, .k, .k, .k, .k, .k, .k, .k, .k, .k, .k, .k, .k, .k, .k, .k, .k, .k, .k, .k, .k, .k, .k, .k, .k, .k, .k, .k, .k, .k, .k, .k, .k, .k, .k, .k, .k, .k, .k, .k, .k, .k, .k, .k, .k, .k, .k, .k, .k, .k, .k, .k, .k, .k, .k, .k, .k, .k, .k, .k, .k, .k, .k, .k, .k, .k, .k, .k, .k, .k, .k, .k, .k, .k, .k, .k, .k, .k, .k, .k, .k, .k, .k, .k, .k, .k, .k, .k, .k, .k, .k, .k, .k, .k, .k, .k, .k, .k, .k, .k, .k, .k, .k, .k, .k, .k, .k, .k, .k, .k, .k, .k, .k, .k, .k, .k, .k, .k, .k, .y 176, .y 177, .y 178, .k, .k, .k, .k, .k, .k, .k, .k, .k, .k, .k, .k, .k, .k, .k, .k, .k, .k, .k, .k, .k, .k, .k, .k, .k, .k, .k, .k, .k, .k, .k, .k, .k, .k, .k, .k, .k, .k, .k, .k, .k, .k, .k, .k, .k, .k, .k, .k, .k, .k, .k, .k, .k, .k, .k, .k, .k, .k, .k, .k, .k, .k, .k, .k, .k, .k, .k, .k, .k, .k, .k, .k, .k, .k, .k, .k, .k, .k, .k, .k, .k, .k, .k, .k, .k, .k, .k, .k, .k, .k, .k, .k, .k, .k, .k, .k, .k, .k, .k, .k, .k, .k], the slots 11 0 0 0, the relation fun v _ _ _ wx => v = .bool (decide (0 < typM tl)) ∧ wx = wf
                apply wp_cutm [.k, .k, .k, .k, .k, .k, .k, .k, .k, .k, .k, .a, .k, .k, .k, .k, .k, .k, .k, .k, .k, .k, .k, .k, .k, .k, .k, .k, .k, .k, .k, .k, .k, .k, .k, .k, .k, .k, .k, .k, .k, .k, .k, .k, .k, .k, .k, .k, .k, .k, .k, .k, .k, .k, .k, .k, .k, .k, .k, .k, .k, .k, .k, .k, .k, .k, .k, .k, .k, .k, .k, .k, .k, .k, .k, .k, .k, .k, .k, .k, .k, .k, .k, .k, .k, .k, .k, .k, .k, .k, .k, .k, .k, .k, .k, .k, .k, .k, .k, .k, .k, .k, .k, .k, .k, .k, .k, .k, .k, .k, .k, .k, .k, .k, .k, .k, .k, .k, .k, .k, .k, .k, .k, .k, .k, .k, .k, .k, .k, .k, .k, .k, .k, .k, .k, .k, .k, .k, .k, .k, .k, .k, .k, .k, .k, .k, .k, .k, .k, .k, .k, .k, .k, .k, .k, .k, .k, .k, .k, .k, .k, .k, .k, .k, .k, .k, .k, .k, .k, .k, .k, .k, .k, .k, .k, .k, .y 176, .y 177, .y 178, .k, .k, .k, .k, .k, .k, .k, .k, .k, .k, .k, .k, .k, .k, .k, .k, .k, .k, .k, .k, .k, .k, .k, .k, .k, .k, .k, .k, .k, .k, .k, .k, .k, .k, .k, .k, .k, .k, .k, .k, .k, .k, .k, .k, .k, .k, .k, .k, .k, .k, .k, .k, .k, .k, .k, .k, .k, .k, .k, .k, .k, .k, .k, .k, .k, .k, .k, .k, .k, .k, .k, .k, .k, .k, .k, .k, .k, .k, .k, .k, .k, .k, .k, .k, .k, .k, .k, .k, .k, .k, .k, .k, .k, .k, .k, .k, .k, .k, .k, .k, .k, .k] 11 0 0 0 (by decide +kernel) (fun v _ _ _ wx => v = .bool (decide (0 < typM tl)) ∧ wx = wf)
                case first =>
                  -- within a cut
                  intro JJ KK hmeet hnext
                  -- of what is to be done behind only the innermost is kept
                  rename ∀ (a : Act) (w : World), Code.wp _ _ _ a w → _ => hkeep
                  revert hkeep
                  repeat (rename ∀ (a : Act) (w : World), Code.wp _ _ _ a w → _ => hz; clear hz)
                  intro hkeep
                  have x1 := block_cell HFB.out 1
                  by_cases hp : 0 < typM tl
                  · have HD := Lib.hid (decide_eq_true hp)
                    go_wp2_with fail
                    -- a way's end
                    refine Met.intro ?_
                    go_step
                    refine Forgot.at _ _ _ _ _ rfl rfl rfl rfl rfl rfl ?_
                    exact ⟨by rw [HD.out], rfl⟩
                  · have HD := Lib.hid (decide_eq_false hp)
                    go_wp2_with fail
                    -- a way's end
                    refine Met.intro ?_
                    go_step
                    refine Forgot.at _ _ _ _ _ rfl rfl rfl rfl rfl rfl ?_
                    exact ⟨by rw [HD.out], rfl⟩
                case rest =>
                -- behind a cut: the names of the slots' values u11 _ _ _ (four)
                intro ff u11 _ _ _ wc hcut
                dsimp only [spread]
                obtain ⟨rfl, hw⟩ := hcut
                obtain ⟨wg, hwg⟩ : ∃ x : World, x = wc := ⟨_, rfl⟩
                subst hwg
                rw [← hw] at HFB HKS
                clear hw
                have HOK : Hid (Fld.ok ⟨bs n, typM tl, mu, ke⟩) := ⟨HNS.out, typM_i64 tl⟩
                have hag : Below wg.heap.size wg (wg.alloc (.cells #[.string (bs n), .int .i64 (typM tl), .bool mu, .bool ke] 61)) := (Below.refl _ _).alloc (Nat.le_refl _) _
                have HKA := Lib.hid (HKS.out.below hag)
                have HNW := Lib.hid (four_new wg (.string (bs n)) (.int .i64 (typM tl)) (.bool mu) (.bool ke) 61)
                have HSB := Lib.hid HKA.out.bel.size
                have z0 := block_cell HFB.out 0
                have z1 := block_cell HFB.out 1
                have z2 := block_cell HFB.out 2
                have z3 := block_cell HFB.out 3
                have y2 := block_cell HKS.out.kb 2
                clear hag
                go_wp2_with (first
                  | (at_builtin
                     refine wpList_append_q _ rfl (.tmp 180) (.tmp 182) _ rfl w3.heap.size 61 n0 (.agg #[.string .empty, .int .i64 0, .bool false, .bool false]) 4 32 Tryz.underlying57 ni nz nz1 nz2 rfl (by decide) (.slice Af fs.length cf) fs.length (fs.flatMap Fld.enc) rfl HKA.out.of (some ⟨wg.heap.size, 0, none⟩) 1 1 [.string (bs n), .int .i64 (typM tl), .bool mu, .bool ke] rfl rfl (fun _ => ⟨_, rfl, fun j u' hj => by rw [addr_add, Nat.zero_add]; exact HNW.out j u' hj⟩) (fun u' hu => by simp at hu; rcases hu with rfl | rfl | rfl | rfl <;> rfl) (by go_light; unfold maxLen; omega) (by go_light; omega) HSB.out ?_
                     intro v7 w7 hown7 hg7 hat7
                     obtain ⟨A7, c7, hv7, _, _⟩ := hown7.form
                     subst hv7
                     have HNEW := Lib.hid (KS.field HKA.out (d := ⟨bs n, typM tl, mu, ke⟩) hg7 hown7 HOK.out)
                     have k7 := grown_block hg7 HKA.out.kb (HKA.out.of.ne_block HKA.out.kb (by decide))
                     have y7 := block_cell k7 2
                     have yf := block_free k7 2
                     clear y2 k7 hown7 hg7 hat7))
                -- a round's end: the relation, the measure
                apply Rounded.at _ _ _ _ _ rfl rfl rfl rfl rfl rfl
                case rel => exact ⟨m + 1, decide (0 < typM tl), fs ++ [⟨bs n, typM tl, mu, ke⟩], A7, c7, by rw [← Nat.add_assoc, ← HAT.out]; exact hml, by rw [← Nat.add_assoc, ← HAT.out]; go_num, rfl, HNEW, by rw [List.length_append]; exact Nat.add_le_add_right hfm 1, fun h => ⟨HOA.out, HFS.out.2 _ (HF2.out (of_decide_eq_true h))⟩, fun h => HFS.out.1 (HF1.out (Int.not_lt.1 (of_decide_eq_false h)))⟩
                case measure => go_light; simp [intOf]; omega
          case rest =>
          -- behind a cut: the names of the slots' values u11 _ _ _ (four)
          intro ff u11 _ _ _ wc hcut
          dsimp only [spread]
          obtain ⟨w8, hw8⟩ : ∃ x : World, x = wc := ⟨_, rfl⟩
          subst hw8
          clear HKS
          obtain ⟨b, fs, Af, cf, rfl, HKS, hfl, HB1, HB2⟩ := hcut
          have HSG8 := Lib.hid (HSG.out.below HKS.out.bel)
          have hah : Below w8.heap.size w8 (w8.alloc (.cells #[.string (bs a), .slice Ao O.length co, .slice Af fs.length cf] 59)) := (Below.refl _ _).alloc (Nat.le_refl _) _
          have HRA := Lib.hid (HSG8.out.below hah)
          have HKA := Lib.hid (HKS.out.below hah)
          have HWA := Lib.hid ((HOWN.out.below HKS.out.bel).below hah)
          have HNW := Lib.hid (three_new w8 (.string (bs a)) (.slice Ao O.length co) (.slice Af fs.length cf) 59)
          have HSZ : Hid (w.heap.size ≤ w3.heap.size) := HSG.out.bel.size
          have hnb : g.kinds.length ≤ 1048577 := by go_light; omega
          have z0 := block_cell HKS.out.kb 0
          have z1 := block_cell HKS.out.kb 1
          have z2 := block_cell HKS.out.kb 2
          have y0 := block_cell HSG8.out.sb 0
          clear hah
          go_wp2_with (first
            | (at_builtin
               refine wpList_append_q _ rfl (.tmp 186) (.tmp 188) _ rfl w.heap.size 59 i0 (.agg #[.string .empty, .slice none 0 0, .slice none 0 0]) 3 64 Tryz.underlying22 ei ez ez1 ez2 rfl (by decide) (.slice An g.kinds.length cn) g.kinds.length xs rfl HRA.out.on (some ⟨w8.heap.size, 0, none⟩) 1 1 [.string (bs a), .slice Ao O.length co, .slice Af fs.length cf] rfl rfl (fun _ => ⟨_, rfl, fun j u' hj => by rw [addr_add, Nat.zero_add]; exact HNW.out j u' hj⟩) (fun u' hu => by simp at hu; rcases hu with rfl | rfl | rfl <;> rfl) (by go_light; unfold maxLen; omega) (by go_light; omega) HRA.out.bel.size ?_
               intro v7 w7 hown7 hg7 hat7
               obtain ⟨A7, c7, hv7, _, _⟩ := hown7.form
               subst hv7
               obtain ⟨bz, bg, bb⟩ := HRA.out.boxes_k hg7
               have BZ := Lib.hid bz
               have BG := Lib.hid bg
               have BB := Lib.hid bb
               have HG7 := Lib.hid hg7
               have HO7 := Lib.hid hown7
               clear y0
               have y0 := block_cell bg 0
               have y0f := block_free bg 0
               clear bz bg bb hg7 hown7 hat7))
          have HEND : Hid (SgEnd w s P L (.slice (some ⟨gb, o, none⟩) (L + 1) c1) k b (w7.setCell ⟨w.heap.size + 1 + 1, 0, none⟩ (.slice A7 (g.kinds.length + 1) c7))) := by
            refine ⟨fun hb => ⟨?_, ?_, ?_⟩, fun hb => ⟨?_, ?_⟩⟩
            · obtain ⟨t1, t2, t3⟩ := HR1.out k (HM1.out (by rw [HLN.out, HB2.out hb]; rfl))
              exact ⟨t2, t1, t3⟩
            · exact BB.out.setCell (p := ⟨w.heap.size + 1 + 1, 0, none⟩) (Nat.le_add_right _ 2) _
            · exact setCell_other BZ.out (Nat.ne_of_lt (Nat.lt_add_of_pos_right (by decide : 0 < 2))) 0 _
            · exact (HWA.out.same (.grown HRA.out.on (by decide) HG7.out)).same (.setCell (p := ⟨w.heap.size + 1 + 1, 0, none⟩) BG.out (by decide) _)
            · have hrun : srun ⟨[], []⟩ 0 P = srun ⟨g.kinds ++ [⟨bs a, O.map bs, fs⟩], g.bonds⟩ (k + 1) (P.drop (k + 1)) := HM2.out _ (by rw [HLN.out, HB1.out hb]; rfl)
              refine ⟨_, _, _, _, _, _, Sg.kind HRA.out (d := ⟨bs a, O.map bs, fs⟩) (u := .slice Ao O.length co) (x := .slice Af fs.length cf) HG7.out HO7.out HAS.out ?_ ?_ HKA.out.ok (HKA.out.of.mono HSZ.out) hrun⟩
              · intro p hp
                obtain ⟨l, hl, rfl⟩ := List.mem_map.1 hp
                unfold Sm; rw [bs_size]; exact HOS.out l hl
              · have h := HKA.out.oo.mono HSZ.out
                have e : wv O = (O.map bs).map Value.string := by unfold wv; rw [List.map_map]; rfl
                rw [e] at h
                show Own _ _ _ _ _ (O.map bs).length _
                rw [List.length_map]; exact h
          go_wp2_with fail
          -- a way's end
          refine Met.intro ?_
          go_step
          refine Forgot.at _ _ _ _ _ rfl rfl rfl rfl rfl rfl ?_
          exact ⟨b, rfl, HEND⟩
        · have HKC : Hid (decide (K = kindW ∧ g.bonds.length = 0 ∧ ∃ a, P2[1]? = some a ∧ wordB a = true) = false) := decide_eq_false hkc
          rw [HKC.out]
          clear HKC
          have HBAD0 : Hid (K = kindW ∧ g.bonds.length = 0 → readKndL P2 = none) := fun h => by
            have hw : ¬ ∃ a, P2[1]? = some a ∧ wordB a = true := fun hx => hkc ⟨h.1, h.2, hx⟩
            have h1 := HKT.out
            cases T with
            | nil => rw [h1]; rfl
            | cons a r =>
              rw [h1, readKnd_two, if_neg (fun hx => hw ⟨a, by rw [h1]; rfl, hx⟩)]
          by_cases hkb : K = bondW ∧ P2.length = 6
          case neg =>
            have HBAD : Hid (readSN s.data.toList = k ∧ readSE s.data.toList = 2 ∧ readSV s.data.toList = ⟨[], []⟩) := by
              have hT : lineS g (x ++ [10]) = none := by
                rw [HLT.out, HHD.out]
                by_cases h1 : some K = some kindW ∧ g.bonds.length = 0
                · rw [if_pos h1, HBAD0.out ⟨by injection h1.1, h1.2⟩]; rfl
                · rw [if_neg h1]
                  by_cases h2 : some K = some bondW
                  · rw [if_pos h2, readBnd_no (fun h6 => hkb ⟨by injection h2, h6⟩)]; rfl
                  · rw [if_neg h2]
              obtain ⟨t1, t2, t3⟩ := HR1.out k (HM1.out hT)
              exact ⟨t2, t1, t3⟩
            have d0 := HK0.out
            by_cases h2 : K = bondW
            · have b2 : (bs K).toList = [98, 111, 110, 100] := by rw [N2.out]; exact h2
              have b2' : ((bs K).toList == [98, 111, 110, 100]) = true := by rw [b2]; rfl
              have h6p : ¬ (P2.length : Int) = 6 := fun h => hkb ⟨h2, by go_light; omega⟩
              have h6 : ((P2.length : Int) == 6) = false := beq_eq_false_iff_ne.2 h6p
              clear HLT HM1 HM2 h2 hkb hkc
              -- a line is wrong: above w: HSG.out.bel, the result's box: HSG.out.z
              have HNO := Lib.hid (sgEnd_bad (P := P) (L := L) (A := .slice (some ⟨gb, o, none⟩) (L + 1) c1) (k := k) HBAD.out (HSG.out.bel) (HSG.out.z))
              go_wp2_with fail
              -- a way's end
              refine Met.intro ?_
              go_step
              refine Forgot.at _ _ _ _ _ rfl rfl rfl rfl rfl rfl ?_
              exact ⟨false, rfl, HNO⟩
            · have b2 : ¬ (bs K).toList = [98, 111, 110, 100] := by rw [N2.out]; exact h2
              have b2' : ((bs K).toList == [98, 111, 110, 100]) = false := beq_eq_false_iff_ne.2 b2
              clear HLT HM1 HM2 h2 hkb hkc
              -- a line is wrong: above w: HSG.out.bel, the result's box: HSG.out.z
              have HNO := Lib.hid (sgEnd_bad (P := P) (L := L) (A := .slice (some ⟨gb, o, none⟩) (L + 1) c1) (k := k) HBAD.out (HSG.out.bel) (HSG.out.z))
              go_wp2_with fail
              -- a way's end
              refine Met.intro ?_
              go_step
              refine Forgot.at _ _ _ _ _ rfl rfl rfl rfl rfl rfl ?_
              exact ⟨false, rfl, HNO⟩
          obtain ⟨h2, h6⟩ := hkb
          obtain ⟨x0, a, b, c, d, e5, hP6⟩ := six_parts h6
          have HLN : Hid (lineS g (x ++ [10]) = (readBndL P2).map fun b => ⟨g.kinds, g.bonds ++ [b]⟩) := by
            unfold Hid
            rw [HLT.out, HHD.out, if_neg (fun h => by have h3 := h.1; rw [h2] at h3; exact absurd h3 (by decide)), if_pos (by rw [h2])]
          have HD2 : Hid (readBndL P2 = if wordB a = true ∧ wordB b = true ∧ wordB c = true then bndOf a b c e5 (numL d 2) (numL e5 2) else none) := by unfold Hid; rw [hP6]; rfl
          have HFIN := Lib.hid (bnd_final HD2.out)
          have hq : ∀ i y, P2[i]? = some y → w3.cell? ⟨gw, ow + i, none⟩ = some (.string (bs y)) ∧ Sm (bs y) := fun i y hy => by
            obtain ⟨gw', ow', hA, hsy, h⟩ := str_at (k := i) HSW.out (d := bs y) (by rw [List.getElem?_map, hy]; rfl)
            injection hA with hA
            injection hA with e1 e2
            rw [e1, e2]
            exact ⟨h, hsy⟩
          obtain ⟨q1, sa⟩ := hq 1 a (by rw [hP6]; rfl)
          obtain ⟨q2, sb⟩ := hq 2 b (by rw [hP6]; rfl)
          obtain ⟨q3, sc⟩ := hq 3 c (by rw [hP6]; rfl)
          obtain ⟨q4, sd⟩ := hq 4 d (by rw [hP6]; rfl)
          obtain ⟨q5, se⟩ := hq 5 e5 (by rw [hP6]; rfl)
          have HQ := Lib.hid (And.intro q1 (And.intro q2 (And.intro q3 (And.intro q4 q5))))
          have b2 : (bs K).toList = [98, 111, 110, 100] := by rw [N2.out]; exact h2
          have b2' : ((bs K).toList == [98, 111, 110, 100]) = true := by rw [b2]; rfl
          have h6i : ((P2.length : Int) == 6) = true := by rw [h6]; rfl
          have i1 : (1 : Int) < (P2.length : Int) := by rw [h6]; decide
          have i2 : (2 : Int) < (P2.length : Int) := by rw [h6]; decide
          have i3 : (3 : Int) < (P2.length : Int) := by rw [h6]; decide
          have i4 : (4 : Int) < (P2.length : Int) := by rw [h6]; decide
          have i5 : (5 : Int) < (P2.length : Int) := by rw [h6]; decide
          have HA := Lib.hid (rwd_any (bs a) sa)
          have HB := Lib.hid (rwd_any (bs b) sb)
          have HC := Lib.hid (rwd_any (bs c) sc)
          have HND := Lib.hid (rnumber_any (bs d) sd 2 (by omega))
          have HNE := Lib.hid (rnumber_any (bs e5) se 2 (by omega))
          rw [bs_list] at HA HB HC HND HNE
          have HI1 := Lib.hid (fun (n : Nat) h1 h0 => num_nat (l := d) (n := n) h1 h0)
          have HI2 := Lib.hid (fun (n : Nat) h1 h0 => num_nat (l := e5) (n := n) h1 h0)
          have HSM : Hid (Sm (bs a) ∧ Sm (bs b) ∧ Sm (bs c)) := ⟨sa, sb, sc⟩
          have HQE := Lib.hid (bs_lit (K := e5) (show (bs anyW).toList = [97, 110, 121] by decide +kernel))
          generalize numL d 2 = nd at *
          generalize numL e5 2 = ne at *
          generalize wordB a = A at *
          generalize wordB b = B at *
          generalize wordB c = C at *
          have d0 := HK0.out
          clear hq hP6 h6 h2 hkc HD2 HBAD0 HLT HK0 sa sb sc sd se q2 q3 q4 q5 N1 N2 HHD
          go_wp2_with fail
          refine (HA.out _).mono ?_
          clear q1 d0 HA
          rintro e wa ⟨rfl, hba⟩
          have q2 := cell_below hba HQ.out.2.1
          go_wp2_with fail
          refine (HB.out _).mono ?_
          clear q2 HB
          rintro e wb ⟨rfl, hbb⟩
          have hB2 := hba.trans (hbb.mono hba.size)
          have q3 := cell_below hB2 HQ.out.2.2.1
          clear hba hbb
          go_wp2_with fail
          refine (HC.out _).mono ?_
          clear q3 HC
          rintro e wx ⟨rfl, hbc⟩
          have hB3 := hB2.trans (hbc.mono hB2.size)
          have q4 := cell_below hB3 HQ.out.2.2.2.1
          clear hB2 hbc
          obtain ⟨D, hD⟩ : ∃ D, D = nd.isSome := ⟨_, rfl⟩
          rw [← hD] at HND HFIN
          clear hD
          go_wp2_with fail
          refine (HND.out _).mono ?_
          clear q4 HND
          rintro e wy ⟨n, rfl, hn1, hn0, hw⟩
          subst hw
          have HN1 : Hid (∀ u, nd = some u → (n : Int) = (u : Int)) := fun u hu => by rw [hn1 u hu]
          have HNI : Hid (I64 (n : Int)) := HI1.out n hn1 hn0
          clear hn1 hn0 HI1
          go_upto_region 46 with fail
          obtain ⟨wz, hwz⟩ : ∃ x : World, x = wy := ⟨_, rfl⟩
          rw [← hwz] at hB3 ⊢
          clear hwz
          have q1 := cell_below hB3 HQ.out.1
          have q2 := cell_below hB3 HQ.out.2.1
          have q3 := cell_below hB3 HQ.out.2.2.1
          have haz : Below wz.heap.size wz (wz.alloc (.cells #[.string ⟨#[]⟩, .string ⟨#[]⟩, .string ⟨#[]⟩, .int .i64 0, .int .i64 0] 40)) := (Below.refl _ _).alloc (Nat.le_refl _) _
          have p1 := cell_below haz q1
          have p2 := cell_below haz q2
          have p3 := cell_below haz q3
          -- a cut: the mask [.k, .k, .k, .k, .k, .k, .k, .k, .k, .k, .k, .k, .k, .k, .k, .k, .k, .k, .k, .k, .k, .k, .k, .k, .k, .a, .k, .k, .k, .k, .k, .k, .k, .k, .k, .k, .k, .k, .k, .k, .k, .k, .k, .k, .k, .k, .k, .k, .k, .k, .k, .k, .k, .k, .k, .k, .k, .k, .k, .k, .k, .k, .k, .k, .k, .k, .k, .k, .k, .k, .k, .k, .k, .k, .k, .k, .k, .k, .k, .k, .k, .k, .k, .k, .k, .k, .k, .k, .k, .k, .k, .k, .k, .k, .k, .k, .k, .k, .k, .k, .k, .k, .k, .k, .k, .k, .k, .k, .k, .k, .k, .k, .k, .k, .k, .k, .k, .k, .k, .k, .k, .k, .k, .k, .k, .k, .k, .k, .k, .k, .k, .k, .k, .k, .k, .k, .k, .k, .k, .k, .k, .k, .k, .k, .k, .k, .k, .k, .k, .k, .k, .k, .k, .k, .k, .k, .k, .k, .k, .k, .k, .k, .k, .k, .k, .k, .k, .k, .k, .k, .k, .k, .k, .k, .k, .k, .k, .k, .k, .k, .k, .k, .k, .k, .k, .k, .k, .k, .k, .k, .k, .k, .k, .k, .k, .k, .k, .k, .k, .k, .k, .k, .k, .k, .k, .k, .k, .k, .k, .k, .k, .k, .k, .k, .k, .k, .k, .k, .k, .y 219, .y 220, .y 221, .y 222, .y 223, .y 224, .y 225, .y 226, .y 227, .y 228, .y 229, .k, .k, .k, .k, .k, .k, .k, .k, .k, .k, .k, .k, .k, .k, .k, .k, .k, .k, .k, .k, .k, .k, .k, .k, .k, .k, .k, .k, .k, .k, .k, .k, .k, .k, .k, .k, .k, .k, .k, .k, .k, .k, .k, .k, .k, .k, .k, .k, .k, .k, .k], the slots 25 0 0 0, the relation fun v _ _ _ wx => v = .pointer (some ⟨wz.heap.size, 0, none⟩) ∧ wx = (wz.alloc (.cells #[.string (bs a), .string (bs b), .string (bs c), .int .i64 (n : Int), .int .i64 (-1)] 40)).drew
          apply wp_cutm [.k, .k, .k, .k, .k, .k, .k, .k, .k, .k, .k, .k, .k, .k, .k, .k, .k, .k, .k, .k, .k, .k, .k, .k, .k, .a, .k, .k, .k, .k, .k, .k, .k, .k, .k, .k, .k, .k, .k, .k, .k, .k, .k, .k, .k, .k, .k, .k, .k, .k, .k, .k, .k, .k, .k, .k, .k, .k, .k, .k, .k, .k, .k, .k, .k, .k, .k, .k, .k, .k, .k, .k, .k, .k, .k, .k, .k, .k, .k, .k, .k, .k, .k, .k, .k, .k, .k, .k, .k, .k, .k, .k, .k, .k, .k, .k, .k, .k, .k, .k, .k, .k, .k, .k, .k, .k, .k, .k, .k, .k, .k, .k, .k, .k, .k, .k, .k, .k, .k, .k, .k, .k, .k, .k, .k, .k, .k, .k, .k, .k, .k, .k, .k, .k, .k, .k, .k, .k, .k, .k, .k, .k, .k, .k, .k, .k, .k, .k, .k, .k, .k, .k, .k, .k, .k, .k, .k, .k, .k, .k, .k, .k, .k, .k, .k, .k, .k, .k, .k, .k, .k, .k, .k, .k, .k, .k, .k, .k, .k, .k, .k, .k, .k, .k, .k, .k, .k, .k, .k, .k, .k, .k, .k, .k, .k, .k, .k, .k, .k, .k, .k, .k, .k, .k, .k, .k, .k, .k, .k, .k, .k, .k, .k, .k, .k, .k, .k, .k, .k, .y 219, .y 220, .y 221, .y 222, .y 223, .y 224, .y 225, .y 226, .y 227, .y 228, .y 229, .k, .k, .k, .k, .k, .k, .k, .k, .k, .k, .k, .k, .k, .k, .k, .k, .k, .k, .k, .k, .k, .k, .k, .k, .k, .k, .k, .k, .k, .k, .k, .k, .k, .k, .k, .k, .k, .k, .k, .k, .k, .k, .k, .k, .k, .k, .k, .k, .k, .k, .k] 25 0 0 0 (by decide +kernel) (fun v _ _ _ wx => v = .pointer (some ⟨wz.heap.size, 0, none⟩) ∧ wx = (wz.alloc (.cells #[.string (bs a), .string (bs b), .string (bs c), .int .i64 (n : Int), .int .i64 (-1)] 40)).drew)
          case first =>
            -- within a cut
            intro JJ KK hmeet hnext
            -- of what is to be done behind only the innermost is kept
            rename ∀ (a : Act) (w : World), Code.wp _ _ _ a w → _ => hkeep
            revert hkeep
            repeat (rename ∀ (a : Act) (w : World), Code.wp _ _ _ a w → _ => hz; clear hz)
            intro hkeep
            go_region
            all_goals
              go_wp2_with fail
              -- a way's end
              refine Met.intro ?_
              go_step
              refine Forgot.at _ _ _ _ _ rfl rfl rfl rfl rfl rfl ?_
              exact ⟨rfl, rfl⟩
          case rest =>
          -- behind a cut: the names of the slots' values u25 _ _ _ (four)
          intro ff u25 _ _ _ wc hcut
          dsimp only [spread]
          obtain ⟨rfl, hw⟩ := hcut
          obtain ⟨w9, hw9⟩ : ∃ x : World, x = wc := ⟨_, rfl⟩
          subst hw9
          have ha4 : Below wz.heap.size wz (wz.alloc (.cells #[.string (bs a), .string (bs b), .string (bs c), .int .i64 (n : Int), .int .i64 (-1)] 40)).drew := ((Below.refl _ _).alloc (Nat.le_refl _) _).drew
          have HBX : Hid (w9.heap[wz.heap.size]? = some (.cells #[.string (bs a), .string (bs b), .string (bs c), .int .i64 (n : Int), .int .i64 (-1)] 40 (0, 0))) := by rw [hw]; exact heap_alloc_new wz _
          rw [← hw] at ha4
          have hB4 := hB3.trans (ha4.mono hB3.size)
          have HQL : Hid (w3.heap.size ≤ wz.heap.size) := hB3.size
          have q5 := cell_below hB4 HQ.out.2.2.2.2
          have HB4 := Lib.hid hB4
          clear hw ha4 hB3 q1 q2 q3 p1 p2 p3 haz hB4
          generalize wz.heap.size = q at *
          go_upto_region 47 with fail
          -- a cut: the mask [.k, .k, .k, .k, .k, .k, .k, .k, .k, .k, .k, .a, .k, .k, .k, .k, .k, .k, .k, .k, .k, .k, .k, .k, .k, .k, .k, .k, .k, .k, .k, .k, .k, .k, .k, .k, .k, .k, .k, .k, .k, .k, .k, .k, .k, .k, .k, .k, .k, .k, .k, .k, .k, .k, .k, .k, .k, .k, .k, .k, .k, .k, .k, .k, .k, .k, .k, .k, .k, .k, .k, .k, .k, .k, .k, .k, .k, .k, .k, .k, .k, .k, .k, .k, .k, .k, .k, .k, .k, .k, .k, .k, .k, .k, .k, .k, .k, .k, .k, .k, .k, .k, .k, .k, .k, .k, .k, .k, .k, .k, .k, .k, .k, .k, .k, .k, .k, .k, .k, .k, .k, .k, .k, .k, .k, .k, .k, .k, .k, .k, .k, .k, .k, .k, .k, .k, .k, .k, .k, .k, .k, .k, .k, .k, .k, .k, .k, .k, .k, .k, .k, .k, .k, .k, .k, .k, .k, .k, .k, .k, .k, .k, .k, .k, .k, .k, .k, .k, .k, .k, .k, .k, .k, .k, .k, .k, .k, .k, .k, .k, .k, .k, .k, .k, .k, .k, .k, .k, .k, .k, .k, .k, .k, .k, .k, .k, .k, .k, .k, .k, .k, .k, .k, .k, .k, .k, .k, .k, .k, .k, .k, .k, .k, .k, .k, .k, .k, .k, .k, .k, .k, .k, .k, .k, .k, .k, .k, .k, .k, .k, .y 230, .y 231, .y 232, .y 233, .y 234, .y 235, .y 236, .y 237, .y 238, .y 239, .k, .k, .k, .k, .k, .k, .k, .k, .k, .k, .k, .k, .k, .k, .k, .k, .k, .k, .k, .k, .k, .k, .k, .k, .k, .k, .k, .k, .k, .k, .k, .k, .k, .k, .k, .k, .k, .k, .k, .k, .k], the slots 11 0 0 0, the relation fun v _ _ _ wx => v = .bool (A && B && C && D) ∧ wx = w9
          apply wp_cutm [.k, .k, .k, .k, .k, .k, .k, .k, .k, .k, .k, .a, .k, .k, .k, .k, .k, .k, .k, .k, .k, .k, .k, .k, .k, .k, .k, .k, .k, .k, .k, .k, .k, .k, .k, .k, .k, .k, .k, .k, .k, .k, .k, .k, .k, .k, .k, .k, .k, .k, .k, .k, .k, .k, .k, .k, .k, .k, .k, .k, .k, .k, .k, .k, .k, .k, .k, .k, .k, .k, .k, .k, .k, .k, .k, .k, .k, .k, .k, .k, .k, .k, .k, .k, .k, .k, .k, .k, .k, .k, .k, .k, .k, .k, .k, .k, .k, .k, .k, .k, .k, .k, .k, .k, .k, .k, .k, .k, .k, .k, .k, .k, .k, .k, .k, .k, .k, .k, .k, .k, .k, .k, .k, .k, .k, .k, .k, .k, .k, .k, .k, .k, .k, .k, .k, .k, .k, .k, .k, .k, .k, .k, .k, .k, .k, .k, .k, .k, .k, .k, .k, .k, .k, .k, .k, .k, .k, .k, .k, .k, .k, .k, .k, .k, .k, .k, .k, .k, .k, .k, .k, .k, .k, .k, .k, .k, .k, .k, .k, .k, .k, .k, .k, .k, .k, .k, .k, .k, .k, .k, .k, .k, .k, .k, .k, .k, .k, .k, .k, .k, .k, .k, .k, .k, .k, .k, .k, .k, .k, .k, .k, .k, .k, .k, .k, .k, .k, .k, .k, .k, .k, .k, .k, .k, .k, .k, .k, .k, .k, .k, .y 230, .y 231, .y 232, .y 233, .y 234, .y 235, .y 236, .y 237, .y 238, .y 239, .k, .k, .k, .k, .k, .k, .k, .k, .k, .k, .k, .k, .k, .k, .k, .k, .k, .k, .k, .k, .k, .k, .k, .k, .k, .k, .k, .k, .k, .k, .k, .k, .k, .k, .k, .k, .k, .k, .k, .k, .k] 11 0 0 0 (by decide +kernel) (fun v _ _ _ wx => v = .bool (A && B && C && D) ∧ wx = w9)
          case first =>
            -- within a cut
            intro JJ KK hmeet hnext
            -- of what is to be done behind only the innermost is kept
            rename ∀ (a : Act) (w : World), Code.wp _ _ _ a w → _ => hkeep
            revert hkeep
            repeat (rename ∀ (a : Act) (w : World), Code.wp _ _ _ a w → _ => hz; clear hz)
            intro hkeep
            cases A with
            | false =>
              go_wp2_with fail
              -- a way's end
              refine Met.intro ?_
              go_step
              refine Forgot.at _ _ _ _ _ rfl rfl rfl rfl rfl rfl ?_
              exact ⟨rfl, rfl⟩
            | true =>
            cases B with
            | false =>
              go_wp2_with fail
              -- a way's end
              refine Met.intro ?_
              go_step
              refine Forgot.at _ _ _ _ _ rfl rfl rfl rfl rfl rfl ?_
              exact ⟨rfl, rfl⟩
            | true =>
            cases C with
            | false =>
              go_wp2_with fail
              -- a way's end
              refine Met.intro ?_
              go_step
              refine Forgot.at _ _ _ _ _ rfl rfl rfl rfl rfl rfl ?_
              exact ⟨rfl, rfl⟩
            | true =>
              go_wp2_with fail
              -- a way's end
              refine Met.intro ?_
              go_step
              refine Forgot.at _ _ _ _ _ rfl rfl rfl rfl rfl rfl ?_
              exact ⟨rfl, rfl⟩
          case rest =>
          -- behind a cut: the names of the slots' values u11 _ _ _ (four)
          intro ff u11 _ _ _ wc hcut
          dsimp only [spread]
          obtain ⟨rfl, hw⟩ := hcut
          obtain ⟨wd, hwd⟩ : ∃ x : World, x = wc := ⟨_, rfl⟩
          subst hwd
          rw [← hw] at HB4 HBX q5
          clear hw
          obtain ⟨E, hE⟩ : ∃ E, E = ne.isSome := ⟨_, rfl⟩
          rw [← hE] at HNE HFIN
          clear hE
          generalize (A && B && C && D) = F at *
          go_upto_if 243 with fail
          clear q5
          -- a cut: the mask [.k, .k, .k, .k, .k, .k, .k, .k, .k, .k, .k, .a, .k, .k, .k, .k, .k, .k, .k, .k, .k, .k, .k, .k, .k, .k, .y 26, .y 27, .k, .k, .k, .k, .k, .k, .k, .k, .k, .k, .k, .k, .k, .k, .k, .k, .k, .k, .k, .k, .k, .k, .k, .k, .k, .k, .k, .k, .k, .k, .k, .k, .k, .k, .k, .k, .k, .k, .k, .k, .k, .k, .k, .k, .k, .k, .k, .k, .k, .k, .k, .k, .k, .k, .k, .k, .k, .k, .k, .k, .k, .k, .k, .k, .k, .k, .k, .k, .k, .k, .k, .k, .k, .k, .k, .k, .k, .k, .k, .k, .k, .k, .k, .k, .k, .k, .k, .k, .k, .k, .k, .k, .k, .k, .k, .k, .k, .k, .k, .k, .k, .k, .k, .k, .k, .k, .k, .k, .k, .k, .k, .k, .k, .k, .k, .k, .k, .k, .k, .k, .k, .k, .k, .k, .k, .k, .k, .k, .k, .k, .k, .k, .k, .k, .k, .k, .k, .k, .k, .k, .k, .k, .k, .k, .k, .k, .k, .k, .k, .k, .k, .k, .k, .k, .k, .k, .k, .k, .k, .k, .k, .k, .k, .k, .k, .k, .k, .k, .k, .k, .k, .k, .k, .k, .k, .k, .k, .k, .k, .k, .k, .k, .k, .k, .k, .k, .k, .k, .k, .k, .k, .k, .k, .k, .k, .k, .k, .k, .k, .k, .k, .k, .k, .k, .k, .k, .k, .k, .k, .k, .k, .k, .k, .k, .k, .y 243, .y 244, .y 245, .y 246, .y 247, .y 248, .y 249, .y 250, .y 251, .y 252, .y 253, .y 254, .y 255, .y 256, .k, .k, .k, .k, .k, .k, .k, .k, .k, .k, .k, .k, .k, .k, .k, .k, .k, .k, .k, .k, .k, .k, .k, .k], the slots 11 0 0 0, the relation fun v _ _ _ wx => ∃ mx : Int, v = .bool (F && (decide (e5 = anyW) || E)) ∧ I64 mx ∧ Hid (e5 = anyW → mx = -1) ∧ Hid (¬ e5 = anyW → ∀ u, ne = some u → mx = (u : Int)) ∧ Hid (Below w3.heap.size w3 wx) ∧ Hid (wx.heap[q]? = some (.cells #[.string (bs a), .string (bs b), .string (bs c), .int .i64 (n : Int), .int .i64 mx] 40 (0, 0)))
          apply wp_cutm [.k, .k, .k, .k, .k, .k, .k, .k, .k, .k, .k, .a, .k, .k, .k, .k, .k, .k, .k, .k, .k, .k, .k, .k, .k, .k, .y 26, .y 27, .k, .k, .k, .k, .k, .k, .k, .k, .k, .k, .k, .k, .k, .k, .k, .k, .k, .k, .k, .k, .k, .k, .k, .k, .k, .k, .k, .k, .k, .k, .k, .k, .k, .k, .k, .k, .k, .k, .k, .k, .k, .k, .k, .k, .k, .k, .k, .k, .k, .k, .k, .k, .k, .k, .k, .k, .k, .k, .k, .k, .k, .k, .k, .k, .k, .k, .k, .k, .k, .k, .k, .k, .k, .k, .k, .k, .k, .k, .k, .k, .k, .k, .k, .k, .k, .k, .k, .k, .k, .k, .k, .k, .k, .k, .k, .k, .k, .k, .k, .k, .k, .k, .k, .k, .k, .k, .k, .k, .k, .k, .k, .k, .k, .k, .k, .k, .k, .k, .k, .k, .k, .k, .k, .k, .k, .k, .k, .k, .k, .k, .k, .k, .k, .k, .k, .k, .k, .k, .k, .k, .k, .k, .k, .k, .k, .k, .k, .k, .k, .k, .k, .k, .k, .k, .k, .k, .k, .k, .k, .k, .k, .k, .k, .k, .k, .k, .k, .k, .k, .k, .k, .k, .k, .k, .k, .k, .k, .k, .k, .k, .k, .k, .k, .k, .k, .k, .k, .k, .k, .k, .k, .k, .k, .k, .k, .k, .k, .k, .k, .k, .k, .k, .k, .k, .k, .k, .k, .k, .k, .k, .k, .k, .k, .k, .k, .y 243, .y 244, .y 245, .y 246, .y 247, .y 248, .y 249, .y 250, .y 251, .y 252, .y 253, .y 254, .y 255, .y 256, .k, .k, .k, .k, .k, .k, .k, .k, .k, .k, .k, .k, .k, .k, .k, .k, .k, .k, .k, .k, .k, .k, .k, .k] 11 0 0 0 (by decide +kernel) (fun v _ _ _ wx => ∃ mx : Int, v = .bool (F && (decide (e5 = anyW) || E)) ∧ I64 mx ∧ Hid (e5 = anyW → mx = -1) ∧ Hid (¬ e5 = anyW → ∀ u, ne = some u → mx = (u : Int)) ∧ Hid (Below w3.heap.size w3 wx) ∧ Hid (wx.heap[q]? = some (.cells #[.string (bs a), .string (bs b), .string (bs c), .int .i64 (n : Int), .int .i64 mx] 40 (0, 0))))
          case first =>
            -- within a cut
            intro JJ KK hmeet hnext
            -- of what is to be done behind only the innermost is kept
            rename ∀ (a : Act) (w : World), Code.wp _ _ _ a w → _ => hkeep
            revert hkeep
            repeat (rename ∀ (a : Act) (w : World), Code.wp _ _ _ a w → _ => hz; clear hz)
            intro hkeep
            by_cases he : e5 = anyW
            · have HE := Lib.hid he
              have c1' : (bs e5).toList = [97, 110, 121] := by rw [HQE.out]; exact he
              have c2' : ((bs e5).toList == [97, 110, 121]) = true := by rw [c1']; rfl
              have c3' : ((bs e5).toList != [97, 110, 121]) = false := by rw [c1']; rfl
              have c4' : (!(bs e5).toList == [97, 110, 121]) = false := by rw [c2']; rfl
              have HDE := Lib.hid (decide_eq_true he)
              try rw [c4']
              clear he
              go_wp2_with fail
              -- a way's end
              refine Met.intro ?_
              go_step
              refine Forgot.at _ _ _ _ _ rfl rfl rfl rfl rfl rfl ?_
              exact ⟨-1, by rw [HDE.out, Bool.true_or, Bool.and_true], ⟨by decide, by decide⟩, fun _ => rfl, fun h => absurd HE.out h, HB4, HBX⟩
            · have HE := Lib.hid he
              have c1' : ¬ (bs e5).toList = [97, 110, 121] := by rw [HQE.out]; exact he
              have c2' : ((bs e5).toList == [97, 110, 121]) = false := beq_eq_false_iff_ne.2 c1'
              have c3' : ((bs e5).toList != [97, 110, 121]) = true := bne_iff_ne.2 c1'
              have c4' : (!(bs e5).toList == [97, 110, 121]) = true := by rw [c2']; rfl
              have HDE := Lib.hid (decide_eq_false he)
              try rw [c4']
              have q5 := cell_below HB4.out HQ.out.2.2.2.2
              clear he
              go_wp2_with fail
              refine (HNE.out _).mono ?_
              clear HNE q5 c1' c2' c3' c4'
              rintro e wv ⟨m, rfl, hm1, hm0, hw⟩
              subst hw
              have HM1' : Hid (∀ u, ne = some u → (m : Int) = (u : Int)) := fun u hu => by rw [hm1 u hu]
              have HMI : Hid (I64 (m : Int)) := HI2.out m hm1 hm0
              have x4 := block_cell HBX.out 4
              have y4 := block_free HBX.out 4
              have HBX' := Lib.hid (setCell_block HBX.out 4 (.int .i64 (m : Int)))
              have HB' := Lib.hid (HB4.out.setCell (p := ⟨q, 4, none⟩) HQL.out (.int .i64 (m : Int)))
              clear hm1 hm0
              cases F with
              | false =>
                go_wp2_with fail
                -- a way's end
                refine Met.intro ?_
                go_step
                refine Forgot.at _ _ _ _ _ rfl rfl rfl rfl rfl rfl ?_
                exact ⟨(m : Int), rfl, HMI.out, fun h => absurd h HE.out, fun _ => HM1'.out, HB', HBX'⟩
              | true =>
                go_wp2_with fail
                -- a way's end
                refine Met.intro ?_
                go_step
                refine Forgot.at _ _ _ _ _ rfl rfl rfl rfl rfl rfl ?_
                exact ⟨(m : Int), by rw [HDE.out]; rfl, HMI.out, fun h => absurd h HE.out, fun _ => HM1'.out, HB', HBX'⟩
          case rest =>
          -- behind a cut: the names of the slots' values u11 _ _ _ (four)
          intro ff u11 _ _ _ wc hcut
          dsimp only [spread]
          obtain ⟨we, hwe⟩ : ∃ x : World, x = wc := ⟨_, rfl⟩
          subst hwe
          clear HBX HB4
          obtain ⟨mx, rfl, hmi, HX1, HX2, HB4, HBX⟩ := hcut
          have HF := Lib.hid (HFIN.out (n : Int) mx HN1.out HX1.out HX2.out)
          have HDO : Hid (Bnd.ok ⟨bs a, bs b, bs c, (n : Int), mx⟩) := ⟨HSM.out.1, HSM.out.2.1, HSM.out.2.2, HNI.out, hmi⟩
          clear HFIN HX1 HX2 hmi HNE
          generalize (F && (decide (e5 = anyW) || E)) = fin at *
          have HSG8 := Lib.hid (HSG.out.below HB4.out)
          have hah : Below we.heap.size we (we.alloc (.cells #[.string (bs a), .string (bs b), .string (bs c), .int .i64 (n : Int), .int .i64 mx] 40)) := (Below.refl _ _).alloc (Nat.le_refl _) _
          have HRA := Lib.hid (HSG8.out.below hah)
          have HWA := Lib.hid ((HOWN.out.below HB4.out).below hah)
          have HNW := Lib.hid (five_new we (.string (bs a)) (.string (bs b)) (.string (bs c)) (.int .i64 (n : Int)) (.int .i64 mx) 40)
          have hnb : g.bonds.length ≤ 1048577 := by go_light; omega
          have z0 := block_cell HBX.out 0
          have z1 := block_cell HBX.out 1
          have z2 := block_cell HBX.out 2
          have z3 := block_cell HBX.out 3
          have z4 := block_cell HBX.out 4
          have y1 := block_cell HSG8.out.sb 1
          clear hah
          go_wp2_with (first
            | (at_builtin
               refine wpList_append_q _ rfl (.tmp 258) (.tmp 260) _ rfl w.heap.size 40 j0 (.agg #[.string .empty, .string .empty, .string .empty, .int .i64 0, .int .i64 0]) 5 64 Tryz.underlying23 fi fz fz1 fz2 rfl (by decide) (.slice At g.bonds.length ct) g.bonds.length (g.bonds.flatMap Bnd.enc) rfl HRA.out.ot (some ⟨we.heap.size, 0, none⟩) 1 1 [.string (bs a), .string (bs b), .string (bs c), .int .i64 (n : Int), .int .i64 mx] rfl rfl (fun _ => ⟨_, rfl, fun j u' hj => by rw [addr_add, Nat.zero_add]; exact HNW.out j u' hj⟩) (fun u' hu => by simp at hu; rcases hu with rfl | rfl | rfl | rfl | rfl <;> rfl) (by go_light; unfold maxLen; omega) (by go_light; omega) HRA.out.bel.size ?_
               intro v7 w7 hown7 hg7 hat7
               obtain ⟨A7, c7, hv7, _, _⟩ := hown7.form
               subst hv7
               obtain ⟨bz, bg, bb⟩ := HRA.out.boxes_b hg7
               have BZ := Lib.hid bz
               have BG := Lib.hid bg
               have BB := Lib.hid bb
               have HG7 := Lib.hid hg7
               have HO7 := Lib.hid hown7
               clear y1
               have y1 := block_cell bg 1
               have y1f := block_free bg 1
               clear bz bg bb hg7 hown7 hat7))
          have HEND : Hid (SgEnd w s P L (.slice (some ⟨gb, o, none⟩) (L + 1) c1) k fin (w7.setCell ⟨w.heap.size + 1 + 1, 1, none⟩ (.slice A7 (g.bonds.length + 1) c7))) := by
            refine ⟨fun hb => ⟨?_, ?_, ?_⟩, fun hb => ⟨?_, ?_⟩⟩
            · obtain ⟨t1, t2, t3⟩ := HR1.out k (HM1.out (by rw [HLN.out, HF.out.2 hb]; rfl))
              exact ⟨t2, t1, t3⟩
            · exact BB.out.setCell (p := ⟨w.heap.size + 1 + 1, 1, none⟩) (Nat.le_add_right _ 2) _
            · exact setCell_other BZ.out (Nat.ne_of_lt (Nat.lt_add_of_pos_right (by decide : 0 < 2))) 1 _
            · exact (HWA.out.same (.grown HRA.out.ot (by decide) HG7.out)).same (.setCell (p := ⟨w.heap.size + 1 + 1, 1, none⟩) BG.out (by decide) _)
            · have hrun : srun ⟨[], []⟩ 0 P = srun ⟨g.kinds, g.bonds ++ [⟨bs a, bs b, bs c, (n : Int), mx⟩]⟩ (k + 1) (P.drop (k + 1)) := HM2.out _ (by rw [HLN.out, HF.out.1 hb]; rfl)
              exact ⟨_, _, _, _, _, _, Sg.bond HRA.out (d := ⟨bs a, bs b, bs c, (n : Int), mx⟩) HG7.out HO7.out HDO.out hrun⟩
          go_wp2_with fail
          -- a way's end
          refine Met.intro ?_
          go_step
          refine Forgot.at _ _ _ _ _ rfl rfl rfl rfl rfl rfl ?_
          exact ⟨fin, rfl, HEND⟩
      case rest =>
      -- behind a cut: the names of the slots' values u11 _ _ _ (four)
      intro ff u11 _ _ _ wc hcut
      dsimp only [spread]
      obtain ⟨w5, hw5⟩ : ∃ x : World, x = wc := ⟨_, rfl⟩
      subst hw5
      obtain ⟨b, rfl, HEND⟩ := hcut
      clear HLT HM1 HM2 HSG HOWN HSW HHD HKT N1 N2
      cases b with
      | false =>
        obtain ⟨hbad, hbb, hzz⟩ := HEND.out.1 rfl
        have HBAD := Lib.hid hbad
        clear hbad HEND
        -- a line is wrong: above w: hbb, the result's box: hzz, the number (k : Int)
        obtain ⟨k1, k2, _⟩ := res2s (v0 := .slice none 0 0) (v1 := .slice none 0 0) (hbb) (hzz)
        have KK := Lib.hid (And.intro k1 k2)
        have r0 := block_cell (hzz) 0
        have r1 := block_cell (hzz) 1
        have f0 := block_free (hzz) 0
        have f1 := block_free (hzz) 1
        clear k1 k2
        -- the region 54 and the return behind it; what the return passes: Exit.inBlock, Exit.then ('Exit.inBlock, Exit.then' out of a loop, 'Exit.then' out of an if)
        go_upto_region 54 with fail
        -- of what is to be done behind only the innermost is kept
        rename ∀ (a : Act) (w : World), Code.wp _ _ _ a w → _ => hkeep
        revert hkeep
        repeat (rename ∀ (a : Act) (w : World), Code.wp _ _ _ a w → _ => hz; clear hz)
        intro hkeep
        have HKE := Lib.hid hkeep
        clear hkeep
        go_wp2_with fail
        refine HKE.out _ _ (wp_ret ?_)
        try simp (config := { zetaDelta := true }) only [Exit.inBlock, Exit.then]
        obtain ⟨k1, k2⟩ := KK.out
        have p0 := block_cell k2 0
        have p1 := block_cell k2 1
        exact bodyPost_ret (v := .tuple #[.agg #[.slice none 0 0, .slice none 0 0], .int .i64 ((k : Int)), .int .i64 2]) (by simp [results, Tryz.results9, go_sem, p0, p1]) rfl ⟨_, _, by rw [HBAD.out.1, HBAD.out.2.1], by rw [HBAD.out.2.2]; exact scmR_none _, k1⟩
      | true =>
        obtain ⟨hown, g2, An2, At2, cn2, ct2, xs2, hnew⟩ := HEND.out.2 rfl
        have HO := Lib.hid hown
        have HN := Lib.hid hnew
        clear hown hnew HEND
        go_wp2_with fail
        -- a round's end: the relation, the measure
        apply Rounded.at _ _ _ _ _ rfl rfl rfl rfl rfl rfl
        case rel => exact ⟨k + 1, _, _, _, _, _, _, by omega, by go_num, HO, HN⟩
        case measure => simp [intOf]; omega
    · obtain rfl : k = L := by omega
      obtain ⟨x, hx⟩ : ∃ x, P[k]? = some x := ⟨_, List.getElem?_eq_getElem (by have := HL.out; omega)⟩
      have hlt2 : (k : Int) < (k : Int) + 1 := by omega
      have hsl := own_words (w := wo) (B := w.heap.size) (v := .slice A1 (k + 1) c1) (xs := P) (by rw [HL.out]; exact HOWN.out) HPL.out
      obtain ⟨gb, o, rfl, hxs, c0⟩ := str_at hsl (d := bs x) (by rw [List.getElem?_map, hx]; rfl)
      have hlast := srun_last (g := g) (n := k) hx HL.out.symm
      have hkb : ((bs x).toList = []) = (x = []) := str_nil
      clear hsl hxs
      by_cases hxn : x = []
      case neg =>
        have HBAD : Hid (readSN s.data.toList = k ∧ readSE s.data.toList = 2 ∧ readSV s.data.toList = ⟨[], []⟩) := by
          obtain ⟨t1, t2, t3⟩ := HR1.out k (by rw [HSG.out.run, hlast, if_neg hxn])
          exact ⟨t2, t1, t3⟩
        have d1 : ¬ (bs x).toList = [] := by rw [hkb]; exact hxn
        have d2 : ((bs x).toList == []) = false := beq_eq_false_iff_ne.2 d1
        have d3 : ((bs x).toList != []) = true := bne_iff_ne.2 d1
        have d4 : (bs x).toList.isEmpty = false := List.isEmpty_eq_false_iff.2 d1
        clear hlast hkb hx hxn
        -- a line is wrong: above w: HSG.out.bel, the result's box: HSG.out.z, the number (k : Int)
        obtain ⟨k1, k2, _⟩ := res2s (v0 := .slice none 0 0) (v1 := .slice none 0 0) (HSG.out.bel) (HSG.out.z)
        have KK := Lib.hid (And.intro k1 k2)
        have r0 := block_cell (HSG.out.z) 0
        have r1 := block_cell (HSG.out.z) 1
        have f0 := block_free (HSG.out.z) 0
        have f1 := block_free (HSG.out.z) 1
        clear k1 k2
        -- the region 56 and the return behind it; what the return passes: Exit.then ('Exit.inBlock, Exit.then' out of a loop, 'Exit.then' out of an if)
        go_upto_region 56 with fail
        -- of what is to be done behind only the innermost is kept
        rename ∀ (a : Act) (w : World), Code.wp _ _ _ a w → _ => hkeep
        revert hkeep
        repeat (rename ∀ (a : Act) (w : World), Code.wp _ _ _ a w → _ => hz; clear hz)
        intro hkeep
        have HKE := Lib.hid hkeep
        clear hkeep
        go_wp2_with fail
        refine HKE.out _ _ (wp_ret ?_)
        try simp (config := { zetaDelta := true }) only [Exit.then]
        obtain ⟨k1, k2⟩ := KK.out
        have p0 := block_cell k2 0
        have p1 := block_cell k2 1
        exact bodyPost_ret (v := .tuple #[.agg #[.slice none 0 0, .slice none 0 0], .int .i64 ((k : Int)), .int .i64 2]) (by simp [results, Tryz.results9, go_sem, p0, p1]) rfl ⟨_, _, by rw [HBAD.out.1, HBAD.out.2.1], by rw [HBAD.out.2.2]; exact scmR_none _, k1⟩
      have HF : Hid (readSE s.data.toList = (scmE g).2 ∧ readSN s.data.toList = 0 ∧ readSV s.data.toList = if (scmE g).2 = 0 then g else ⟨[], []⟩) := HR2.out g (by rw [HSG.out.run, hlast, if_pos hxn])
      have d1 : (bs x).toList = [] := by rw [hkb]; exact hxn
      have d2 : ((bs x).toList == []) = true := by rw [d1]; rfl
      have d3 : ((bs x).toList != []) = false := by rw [d1]; rfl
      have d4 : (bs x).toList.isEmpty = true := by rw [d1]; rfl
      have HGR : Hid (ScmR wo (.slice An g.kinds.length cn) (.slice At g.bonds.length ct) g) := ⟨Own.row (L := kndL) HSG.out.on HSG.out.nn.row, Own.bnds HSG.out.ot HSG.out.tt⟩
      have hcall := rright_any g _ _ wo HGR.out
      have g0 := block_cell HSG.out.sb 0
      have g1 := block_cell HSG.out.sb 1
      generalize (scmE g).2 = ge at *
      clear hlast hkb hx hxn
      go_wp2_with fail
      refine hcall.mono ?_
      clear hcall c0 d1 d2 d3 d4 g0 g1
      rintro e w9 ⟨rfl, hb9⟩
      have HSG9 := Lib.hid (HSG.out.below hb9)
      clear hb9
      by_cases hz : ge = 0
      · have hzb : (ge != 0) = false := by simpa using hz
        have HE : Hid (readSE s.data.toList = 0 ∧ readSN s.data.toList = 0 ∧ readSV s.data.toList = g) := by
          refine ⟨HF.out.1.trans hz, HF.out.2.1, ?_⟩
          rw [HF.out.2.2, if_pos hz]
        obtain ⟨k1, k2, k3⟩ := res2s (v0 := .slice An g.kinds.length cn) (v1 := .slice At g.bonds.length ct) HSG9.out.bel HSG9.out.z
        have KK := Lib.hid (And.intro k1 (And.intro k2 k3))
        have r0 := block_cell HSG9.out.z 0
        have r1 := block_cell HSG9.out.z 1
        have f0 := block_free HSG9.out.z 0
        have f1 := block_free HSG9.out.z 1
        have g0 := block_cell HSG9.out.sb 0
        have g1 := block_cell HSG9.out.sb 1
        clear k1 k2 k3 hz
        -- the region 60 and the return behind it (out of no loop and no if)
        go_upto_region 60 with fail
        -- of what is to be done behind only the innermost is kept
        rename ∀ (a : Act) (w : World), Code.wp _ _ _ a w → _ => hkeep
        revert hkeep
        repeat (rename ∀ (a : Act) (w : World), Code.wp _ _ _ a w → _ => hz; clear hz)
        intro hkeep
        have HKE := Lib.hid hkeep
        clear hkeep
        go_wp2_with fail
        refine HKE.out _ _ (wp_ret ?_)
        try simp (config := { zetaDelta := true }) only []
        obtain ⟨k1, k2, k3⟩ := KK.out
        have p0 := block_cell k2 0
        have p1 := block_cell k2 1
        exact bodyPost_ret (v := .tuple #[.agg #[.slice An g.kinds.length cn, .slice At g.bonds.length ct], .int .i64 0, .int .i64 0]) (by simp [results, Tryz.results9, go_sem, p0, p1]) rfl ⟨_, _, by rw [HE.out.1, HE.out.2.1]; rfl, by
          rw [HE.out.2.2]
          exact ⟨Own.row (L := kndL) (HSG9.out.on.same (k3 _ (by decide))) (HSG9.out.nn.same (k3 _ (by decide)) (k3 _ (by decide))).row, Own.bnds (HSG9.out.ot.same (k3 _ (by decide))) HSG9.out.tt⟩, k1⟩
      · have hzb : (ge != 0) = true := by simpa using hz
        have HE : Hid (readSE s.data.toList = ge ∧ readSN s.data.toList = 0 ∧ readSV s.data.toList = ⟨[], []⟩) := by
          refine ⟨HF.out.1, HF.out.2.1, ?_⟩
          rw [HF.out.2.2, if_neg hz]
        obtain ⟨k1, k2, _⟩ := res2s (v0 := .slice none 0 0) (v1 := .slice none 0 0) HSG9.out.bel HSG9.out.z
        have KK := Lib.hid (And.intro k1 k2)
        have r0 := block_cell HSG9.out.z 0
        have r1 := block_cell HSG9.out.z 1
        have f0 := block_free HSG9.out.z 0
        have f1 := block_free HSG9.out.z 1
        clear k1 k2 hz
        -- the region 59 and the return behind it; what the return passes: Exit.then ('Exit.inBlock, Exit.then' out of a loop, 'Exit.then' out of an if)
        go_upto_region 59 with fail
        -- of what is to be done behind only the innermost is kept
        rename ∀ (a : Act) (w : World), Code.wp _ _ _ a w → _ => hkeep
        revert hkeep
        repeat (rename ∀ (a : Act) (w : World), Code.wp _ _ _ a w → _ => hz; clear hz)
        intro hkeep
        have HKE := Lib.hid hkeep
        clear hkeep
        go_wp2_with fail
        refine HKE.out _ _ (wp_ret ?_)
        try simp (config := { zetaDelta := true }) only [Exit.then]
        obtain ⟨k1, k2⟩ := KK.out
        have p0 := block_cell k2 0
        have p1 := block_cell k2 1
        exact bodyPost_ret (v := .tuple #[.agg #[.slice none 0 0, .slice none 0 0], .int .i64 0, .int .i64 ge]) (by simp [results, Tryz.results9, go_sem, p0, p1]) rfl ⟨_, _, by rw [HE.out.1, HE.out.2.1]; rfl, by rw [HE.out.2.2]; exact scmR_none _, k1⟩
end Go.Proofs.YtfeccicogcnhcaaGreatDoor
