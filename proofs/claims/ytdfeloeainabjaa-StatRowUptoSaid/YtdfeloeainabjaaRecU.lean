/- Contract: record.Unset. -/
import Derived.Test.YtdfeloeainabjaaDelO
namespace Go.Proofs.Ytdfeloeainabjaa
open Go Go.RowKit

set_option maxRecDepth 100000 in
set_option maxHeartbeats 4000000 in
theorem unset_own (r : List Prp) (nm : ByteArray) (v : Value) (w : World) (hv : Sl prpL w v r) :
    Calls Try.prog 84 #[v, .string nm] w (RetO (unsetR r nm) (unsetE r nm) w) := by
  have h1 := recCheck_any r v _ hv
  have HV := Lib.hid hv
  obtain ⟨A, c, rfl, _, _⟩ := hv.form
  clear hv
  go_enter Try.func84, Try.ntmps84
  go_wp2_with fail
  refine h1.mono ?_
  clear h1
  rintro e w1 ⟨rfl, hb1⟩
  by_cases he : recE r = 0
  case neg =>
    have HE : Hid (errV (unsetE r nm) = .iface 23 (.int .i64 (recE r)) ∧ unsetR r nm = []) := by
      have h0 : unsetE r nm = recE r := by unfold unsetE; rw [if_neg he]
      exact ⟨by rw [h0]; exact errV_some he, by unfold unsetR; rw [h0, if_neg he]⟩
    rw [errV_some he]
    clear he
    go_wp2_with fail
    go_ret2
    exact ⟨.slice none 0 0, by rw [HE.out.1]; rfl, by rw [HE.out.2]; exact OwnP.nil, hb1⟩
  obtain ⟨hl8, _, hch⟩ := rec_ok he
  have HE : Hid (unsetE r nm = if rhas r nm then 0 else 5) := by unfold Hid unsetE; rw [if_pos he]
  have HR : Hid (unsetR r nm = if unsetE r nm = 0 then r.take (rpos r nm) ++ r.drop (rpos r nm + 1) else []) := rfl
  rw [errV_zero he]
  have hfd := rfind_any r nm _ w1 (HV.out.below hb1) hch (by omega)
  clear he hch
  go_wp2_with fail
  refine hfd.mono ?_
  clear hfd
  rintro e w2 ⟨rfl, hb2⟩
  have hB2 := hb1.trans (hb2.mono hb1.size)
  cases hq : rhas r nm with
  | false =>
    have HF : Hid (errV (unsetE r nm) = .iface 23 (.int .i64 5) ∧ unsetR r nm = []) := by
      have h0 : unsetE r nm = 5 := by rw [HE.out, hq]; rfl
      exact ⟨by rw [h0]; rfl, by rw [HR.out, h0, if_neg (by omega)]⟩
    clear hq HE HR
    go_wp2_with fail
    go_ret2
    exact ⟨.slice none 0 0, by rw [HF.out.1]; rfl, by rw [HF.out.2]; exact OwnP.nil, hB2⟩
  | true =>
    obtain ⟨d, hd⟩ := rhas_some hq
    have hkl := (List.getElem?_eq_some_iff.1 hd).1
    obtain ⟨m, hm⟩ : ∃ m, r.length = m + 1 := ⟨r.length - 1, by omega⟩
    have HF : Hid (errV (unsetE r nm) = .nilIface ∧ unsetR r nm = r.take (rpos r nm) ++ r.drop (rpos r nm + 1)) := by
      have h0 : unsetE r nm = 0 := by rw [HE.out, hq]; rfl
      exact ⟨by rw [h0]; rfl, by rw [HR.out, h0, if_pos rfl]⟩
    have hcl := clone_prps (HV.out.below hB2) (by omega)
    have hKi : ((rpos r nm : Nat) : Int) ≤ 8 := by omega
    have HL : Hid ((unsetR r nm).length = m) := by unfold Hid; rw [HF.out.2]; simp; omega
    have HO : Hid (∀ x ∈ r, x.ok → x.ok) := fun x _ h => h
    have HM : Hid (∀ x ∈ unsetR r nm, x ∈ r) := fun x hx => by
      rw [HF.out.2] at hx
      rcases List.mem_append.1 hx with h | h
      · exact List.mem_of_mem_take h
      · exact List.mem_of_mem_drop h
    generalize rpos r nm = K at *
    have HM0 := Lib.hid hm
    clear hq HE HR hd hm
    go_wp2_with fail
    refine hcl.mono ?_
    clear hcl
    rintro e w3 ⟨v3, xs, rfl, hown, hrow, hb3⟩
    obtain ⟨rfl, hoks⟩ := Row.flat hrow
    have hown : Own w3 w2.heap.size 67 4 v3 r.length (r.flatMap Prp.enc) := hown
    have hB3 := hB2.trans (hb3.mono hB2.size)
    have hs2 := hB2.size
    have HOK := Lib.hid hoks
    rw [HM0.out] at hown
    have hm := HM0.out
    have hdel := del1_prps w3 w2.heap.size v3 m (r.flatMap Prp.enc) hown K (by omega) (oneCell_flat Prp.enc_one r) (by omega)
    rw [flat_take Prp.enc_len r K (by omega), flat_drop Prp.enc_len r (K + 1) (by omega), ← List.flatMap_append, ← HF.out.2] at hdel
    have HW := Lib.hid hown
    obtain ⟨A3, c3, rfl, _, _⟩ := hown.form
    rw [hm]
    clear hown hrow hoks hm
    go_wp2_with fail
    refine hdel.mono ?_
    clear hdel
    rintro e w4 ⟨u4, rfl, ho4, hg4, hu4⟩
    have hB4 : Below w.heap.size w w4 := hB3.grown hg4 (by have := hb3.size; omega) (fun kk e => by have := (HW.out.lt kk e).1; omega)
    have HO4 := Lib.hid ho4
    obtain ⟨A4, c4, rfl, _, _⟩ := ho4.form
    clear ho4 hg4 hu4
    go_wp2_with fail
    go_ret2
    exact ⟨.slice A4 m c4, by rw [HF.out.1]; rfl, ⟨by rw [HL.out]; exact HO4.out.mono hs2, fun x hx => HOK.out x (HM.out x hx)⟩, hB4⟩
end Go.Proofs.Ytdfeloeainabjaa
