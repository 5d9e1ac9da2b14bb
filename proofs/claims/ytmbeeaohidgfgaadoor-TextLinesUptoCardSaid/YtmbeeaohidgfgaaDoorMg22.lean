/- Parts: TLin. -/
import Derived.Test.YtmbeeaohidgfgaaDoorMg19
import Derived.Test.YtmbeeaohidgfgaaDoorMg21
/- The law TextLines, of the walks' contracts. Conditions: what the library's texts lean on (TxP). -/
namespace Go.Proofs.YtmbeeaohidgfgaaDoor
open Go Go.RowKit

theorem one_right : grfE (manyG 1 0) = 0 := by decide +kernel
theorem one_text : grfT (manyG 1 0) = [110, 111, 100, 101, 32, 49, 32, 97, 32, 107, 61, 49, 10] := by decide +kernel
set_option maxRecDepth 100000 in
set_option maxHeartbeats 8000000 in
theorem textLines_any (s : Grf) (vk vb : Value) (w : World) (hT : TxP w) (hS : GrfR w vk vb s) :
    Calls Tryd.prog 3 #[.agg #[vk, vb]] w fun e w' => e = .returned (.bool true) ∧ Below w.heap.size w w' := by
  obtain ⟨A1, c1, rfl, _, hm1⟩ := hS.1.form
  obtain ⟨A2, c2, rfl, _, hm2⟩ := hS.2.form
  unfold maxLen at hm1 hm2
  have hb0 : Below w.heap.size w (w.alloc (.cells #[.slice A1 s.nodes.length c1, .slice A2 s.ties.length c2] 25)) := (Below.refl _ _).alloc (Nat.le_refl _) _
  obtain ⟨x0, x1⟩ := cell_box2 w (.slice A1 s.nodes.length c1) (.slice A2 s.ties.length c2) 25
  have HS := Lib.hid (hS.below hb0)
  have HT := Lib.hid (hT.below hb0)
  have HLN : Hid (grfE s = 0 → (grfT s).count 10 = s.nodes.length + s.ties.length ∧ s.nodes.length ≤ 60 ∧ s.ties.length ≤ 120 ∧ (grfT s).length ≤ 180 * 450) := fun h => by
    have ho := grf_ok h
    have h3 := ho.1
    have h4 := ho.2.1
    refine ⟨grf_lines h, h3, h4, ?_⟩
    unfold grfT
    have h1 := flatMap_len (f := nodT) (m := 450) (l := s.nodes) fun y hy => nod_len (ho.2.2.2 y hy).2
    have h2 := flatMap_len (f := tieT2) (m := 450) (l := s.ties) fun y hy => tie_len2 ((grf_ties h).2 y hy)
    have h5 : s.nodes.length * 450 ≤ 60 * 450 := Nat.mul_le_mul h3 (Nat.le_refl _)
    have h6 : s.ties.length * 450 ≤ 120 * 450 := Nat.mul_le_mul h4 (Nat.le_refl _)
    rw [List.length_append]; omega
  clear hS hT
  have hmy := many_any 1 0 (w.alloc (.cells #[.slice A1 s.nodes.length c1, .slice A2 s.ties.length c2] 25)) (by omega) (by omega)
  go_enter Tryd.func3, Tryd.ntmps3
  go_upto_region 1 with fail
  generalize w.alloc (.cells #[.slice A1 s.nodes.length c1, .slice A2 s.ties.length c2] 25) = W0 at *
  have X0 := Lib.hid x0
  have X1 := Lib.hid x1
  clear x0 x1
  have hmy : Calls Tryd.prog 7 #[.int .i64 1, .int .i64 0] W0 fun e w' => ∃ v u, e = .returned (.agg #[v, u]) ∧ GrfR w' v u (manyG 1 0) ∧ Below W0.heap.size W0 w' := hmy
  have hMP : Hid (∀ v u wx, TxP wx → GrfR wx v u (manyG 1 0) → Calls Tryd.prog 6 #[.agg #[v, u]] wx fun e w' => e = .returned (.tuple #[.string ⟨#[110, 111, 100, 101, 32, 49, 32, 97, 32, 107, 61, 49, 10]⟩, .nilIface]) ∧ Below wx.heap.size wx w') := by
    intro v u wx h1 h2
    have hx := tprint_any (manyG 1 0) v u wx h1 h2
    rw [one_right, if_pos rfl, one_text, errV_zero rfl] at hx
    exact hx
  go_wp2_with fail
  refine hmy.mono ?_
  clear hmy
  rintro e w0 ⟨v, u, rfl, hg0, hb1⟩
  have hx := hMP.out v u w0 (HT.out.below hb1) hg0
  clear hMP hg0
  go_wp2_with fail
  refine hx.mono ?_
  clear hx
  rintro e w1 ⟨rfl, hb2⟩
  have hB1 := hb1.trans (hb2.mono hb1.size)
  clear hb1 hb2
  have hB10 := hb0.trans (hB1.mono hb0.size)
  have x0 := cell_below hB1 X0.out
  have x1 := cell_below hB1 X1.out
  have hx := tprint_any s _ _ w1 (HT.out.below hB1) (HS.out.below hB1)
  have HG := Lib.hid (fun wx h => grfCheck_any s (.slice A1 s.nodes.length c1) (.slice A2 s.ties.length c2) wx h)
  go_wp2_with fail
  refine hx.mono ?_
  clear hx x0 x1
  rintro e w2 ⟨rfl, hb2⟩
  have hB2 := hB1.trans (hb2.mono hB1.size)
  have hBX := hb0.trans (hB2.mono hb0.size)
  have x0 := cell_below hB2 X0.out
  have x1 := cell_below hB2 X1.out
  by_cases hz : grfE s = 0
  case neg =>
    have hx := HG.out w2 (HS.out.below hB2)
    rw [errV_some hz] at hx ⊢
    rw [if_neg hz]
    clear HLN HG hz
    generalize grfE s = ee at *
    go_wp2_with fail
    refine hx.mono ?_
    clear hx
    rintro e w3 ⟨rfl, hb3⟩
    go_wp2_with fail
    go_ret
    exact ⟨rfl, hBX.trans (hb3.mono hBX.size)⟩
  rw [errV_zero hz, if_pos hz]
  obtain ⟨hcount, hk12, hb12, hlen⟩ := HLN.out hz
  generalize grfT s = L at *
  have HC := Lib.hid hcount
  have hsz : (bs L).size = L.length := bs_size L
  clear hz HLN hcount HG
  go_wp2_with fail
  go_loop [7, 8] (fun n i => ∃ k : Nat, k ≤ L.length ∧ i = .int .i64 k ∧ n = .int .i64 ((L.take k).count 10 : Nat)) (fun _ i => L.length - (intOf i).toNat)
  case atStart => exact ⟨0, Nat.zero_le _, rfl, rfl⟩
  case round =>
    obtain ⟨k, hk, rfl, rfl⟩ := hrel
    by_cases hlt : k < L.length
    · have hlt' : (k : Int) < (L.length : Int) := by omega
      obtain ⟨c, hc⟩ : ∃ c, L[k]? = some c := ⟨_, List.getElem?_eq_getElem hlt⟩
      have hcn : (L.take (k + 1)).count 10 = (L.take k).count 10 + (if c = 10 then 1 else 0) := by
        rw [List.take_add_one, hc, List.count_append]
        by_cases h10 : c = 10
        · rw [if_pos h10, h10]; rfl
        · rw [if_neg h10]; simp [h10]
      have hcl : (L.take k).count 10 ≤ k := Nat.le_trans List.count_le_length (by rw [List.length_take]; omega)
      have HCN := Lib.hid hcn
      clear hcn
      have hix : (bs L)[k]'(by rw [hsz]; exact hlt) = c := by
        have hg : (L[k]'hlt) = c := by
          rw [List.getElem?_eq_getElem hlt] at hc; exact Option.some.inj hc
        rw [← hg]; rfl
      have HIX := Lib.hid hix
      clear hix x0 x1
      go_wp2_with fail
      · rename_i h10
        rw [HIX.out] at h10
        have hc10 : c = 10 := by
          have : (c.toNat : Int) = 10 := eq_of_beq h10
          exact UInt8.toNat_inj.mp (by have : c.toNat = 10 := by omega
                                       rw [this]; rfl)
        refine ⟨⟨k + 1, by omega, by go_num, ?_⟩, by simp only [intOf]; omega⟩
        have hcn := HCN.out
        rw [if_pos hc10] at hcn
        rw [hcn]; go_num
      · rename_i h10
        rw [HIX.out] at h10
        have hc10 : c ≠ 10 := by
          rintro rfl
          exact absurd h10 (by decide)
        refine ⟨⟨k + 1, by omega, by go_num, ?_⟩, by simp only [intOf]; omega⟩
        have hcn := HCN.out
        rw [if_neg hc10] at hcn
        rw [hcn]; go_num
    · obtain rfl : k = L.length := by omega
      rw [List.take_length, HC.out]
      generalize s.nodes.length = kn at *
      generalize s.ties.length = bn at *
      go_wp2_with fail
      go_ret
      exact ⟨rfl, hBX⟩
end Go.Proofs.YtmbeeaohidgfgaaDoor
