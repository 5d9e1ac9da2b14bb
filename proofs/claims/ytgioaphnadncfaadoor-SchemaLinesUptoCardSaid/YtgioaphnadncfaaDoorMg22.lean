/- Parts: SLines. -/
import Derived.Test.YtgioaphnadncfaaDoorMg21
import Derived.Test.YtgioaphnadncfaaDoorMg19
/- Contract: the law SchemaLines answers true. -/
namespace Go.Proofs.YtgioaphnadncfaaDoor
open Go Go.RowKit

def scmA : Scm := ⟨[⟨⟨#[97]⟩, [], []⟩], []⟩
theorem scmA_right : (scmE scmA).2 = 0 := by decide +kernel
theorem scmA_text : scmT scmA = [107, 105, 110, 100, 32, 97, 10] := by decide +kernel
theorem scmA_at {w : World} {b : Nat} (h : w.heap[b]? = some (.cells #[.string ⟨#[97]⟩, .slice none 0 0, .slice none 0 0] 33 (0, 0))) : ScmR w (.slice (some ⟨b, 0, none⟩) 1 1) (.slice none 0 0) scmA := by
  have ho : Own w 0 33 3 (.slice (some ⟨b, 0, none⟩) 1 1) 1 [.string ⟨#[97]⟩, .slice none 0 0, .slice none 0 0] :=
    own_of_block (cs := [.string ⟨#[97]⟩, .slice none 0 0, .slice none 0 0]) h (Nat.zero_le _) rfl (by unfold maxLen; omega)
  have hr : Row kndL w scmA.kinds [.string ⟨#[97]⟩, .slice none 0 0, .slice none 0 0] :=
    ⟨_, [], rfl, ⟨_, _, rfl, by show (1 : Nat) ≤ 1048576; omega, Sl.nil 0 (Nat.zero_le _) none, Sl.nil 0 (Nat.zero_le _) none⟩, rfl⟩
  exact ⟨Own.row (L := kndL) ho hr, Sl.nil 0 (Nat.zero_le _) none⟩
set_option maxRecDepth 100000 in
set_option maxHeartbeats 8000000 in
theorem schemaLines_any (s : Scm) (vk vb : Value) (w : World) (hT : TypOk w) (hS : ScmR w vk vb s) :
    Calls Tryd.prog 3 #[.agg #[vk, vb]] w fun e w' => e = .returned (.bool true) ∧ Below w.heap.size w w' := by
  obtain ⟨A1, c1, rfl, _, hm1⟩ := hS.1.form
  obtain ⟨A2, c2, rfl, _, hm2⟩ := hS.2.form
  unfold maxLen at hm1 hm2
  have hb0 : Below w.heap.size w (w.alloc (.cells #[.slice A1 s.kinds.length c1, .slice A2 s.bonds.length c2] 25)) := (Below.refl _ _).alloc (Nat.le_refl _) _
  obtain ⟨x0, x1⟩ := cell_box2 w (.slice A1 s.kinds.length c1) (.slice A2 s.bonds.length c2) 25
  have HS := Lib.hid (hS.below hb0)
  have HT := Lib.hid (hT.below hb0)
  have HLN : Hid ((scmE s).2 = 0 → (scmT s).count 10 = s.kinds.length + s.bonds.length ∧ s.kinds.length ≤ 12 ∧ s.bonds.length ≤ 12 ∧ (scmT s).length ≤ 24 * 450) := fun h => by
    have ho := scmE_zero h
    refine ⟨scm_lines ho, ho.r.len, ho.bl, ?_⟩
    unfold scmT
    have h1 := flatMap_len (f := kndT) (m := 450) (l := s.kinds) fun y hy => (line_knd ho.r hy).2
    have h2 := flatMap_len (f := bndT) (m := 450) (l := s.bonds) fun y hy => (line_bnd ho hy).2
    have h3 := ho.r.len
    have h4 := ho.bl
    have h5 : s.kinds.length * 450 ≤ 12 * 450 := Nat.mul_le_mul h3 (Nat.le_refl _)
    have h6 : s.bonds.length * 450 ≤ 12 * 450 := Nat.mul_le_mul h4 (Nat.le_refl _)
    rw [List.length_append]; omega
  clear hS hT
  go_enter Tryd.func3, Tryd.ntmps3
  go_upto_region 1 with fail
  generalize w.alloc (.cells #[.slice A1 s.kinds.length c1, .slice A2 s.bonds.length c2] 25) = W0 at *
  have X0 := Lib.hid x0
  have X1 := Lib.hid x1
  have hbk := heap_alloc_new W0 (.cells #[.string ⟨#[97]⟩, .slice none 0 0, .slice none 0 0] 33)
  have ha1 : Below W0.heap.size W0 (W0.alloc (.cells #[.string ⟨#[97]⟩, .slice none 0 0, .slice none 0 0] 33)) := (Below.refl _ _).alloc (Nat.le_refl _) _
  have hx := sprint_any scmA _ _ _ (HT.out.below ha1) (scmA_at hbk)
  rw [if_pos scmA_right, scmA_right, scmA_text, errV_zero rfl, show bs [107, 105, 110, 100, 32, 97, 10] = ⟨#[107, 105, 110, 100, 32, 97, 10]⟩ from rfl] at hx
  clear x0 x1
  go_wp2_with fail
  refine hx.mono ?_
  clear hx
  rintro e w1 ⟨rfl, hb1⟩
  have hB1 := ha1.trans (hb1.mono ha1.size)
  have hB10 := hb0.trans (hB1.mono hb0.size)
  have x0 := cell_below hB1 X0.out
  have x1 := cell_below hB1 X1.out
  have hx := sprint_any s _ _ w1 (HT.out.below hB1) (HS.out.below hB1)
  go_wp2_with fail
  refine hx.mono ?_
  clear hx x0 x1
  rintro e w2 ⟨rfl, hb2⟩
  have hB2 := hB1.trans (hb2.mono hB1.size)
  have hBX := hb0.trans (hB2.mono hb0.size)
  by_cases hz : (scmE s).2 = 0
  case neg =>
    rw [errV_some hz, if_neg hz]
    clear HLN
    generalize (scmE s).2 = ee at *
    go_wp2_with fail
    go_ret
    exact ⟨rfl, hBX⟩
  rw [errV_zero hz, if_pos hz]
  obtain ⟨hcount, hk12, hb12, hlen⟩ := HLN.out hz
  generalize scmT s = L at *
  have HC := Lib.hid hcount
  have x0 := cell_below hB2 X0.out
  have x1 := cell_below hB2 X1.out
  have hsz : (bs L).size = L.length := bs_size L
  clear hz HLN hcount
  go_wp2_with fail
  go_loop [7, 8] (fun n i => ∃ k : Nat, k ≤ L.length ∧ i = .int .i64 k ∧ n = .int .i64 ((L.take k).count 10 : Nat)) (fun _ i => L.length - (intOf i).toNat)
  case atStart => exact ⟨0, Nat.zero_le _, rfl, rfl⟩
  case round =>
    obtain ⟨k, hk, rfl, rfl⟩ := hrel
    by_cases hlt : k < L.length
    · have hlt' : (k : Int) < (L.length : Int) := by omega
      obtain ⟨c, hc⟩ : ∃ c, L[k]? = some c := ⟨_, List.getElem?_eq_getElem hlt⟩
      have hcn : (L.take (k + 1)).count 10 = (L.take k).count 10 + (if c = 10 then 1 else 0) := by
        rw [List.take_add_one, hc, List.count_append]
        by_cases h10 : c = 10
        · rw [if_pos h10, h10]; rfl
        · rw [if_neg h10]; simp [h10]
      have hcl : (L.take k).count 10 ≤ k := Nat.le_trans List.count_le_length (by rw [List.length_take]; omega)
      have HCN := Lib.hid hcn
      clear hcn
      have hix : (bs L)[k]'(by rw [hsz]; exact hlt) = c := by
        have hg : (L[k]'hlt) = c := by
          rw [List.getElem?_eq_getElem hlt] at hc; exact Option.some.inj hc
        rw [← hg]; rfl
      have HIX := Lib.hid hix
      clear hix
      go_wp2_with fail
      · rename_i h10
        rw [HIX.out] at h10
        have hc10 : c = 10 := by
          have : (c.toNat : Int) = 10 := eq_of_beq h10
          exact UInt8.toNat_inj.mp (by have : c.toNat = 10 := by omega
                                       rw [this]; rfl)
        refine ⟨⟨k + 1, by omega, by go_num, ?_⟩, by simp only [intOf]; omega⟩
        have hcn := HCN.out
        rw [if_pos hc10] at hcn
        rw [hcn]; go_num
      · rename_i h10
        rw [HIX.out] at h10
        have hc10 : c ≠ 10 := by
          rintro rfl
          exact absurd h10 (by decide)
        refine ⟨⟨k + 1, by omega, by go_num, ?_⟩, by simp only [intOf]; omega⟩
        have hcn := HCN.out
        rw [if_neg hc10] at hcn
        rw [hcn]; go_num
    · obtain rfl : k = L.length := by omega
      rw [List.take_length, HC.out]
      generalize s.kinds.length = kn at *
      generalize s.bonds.length = bn at *
      go_wp2_with fail
      go_ret
      exact ⟨rfl, hBX⟩
end Go.Proofs.YtgioaphnadncfaaDoor
