/- Contract: kind.Under: all that come of a kind. -/
import Derived.Test.YtdfeloeainabjaaDoorKinK
namespace Go.Proofs.YtdfeloeainabjaaDoor
open Go Go.RowKit

def underL (l : List Knd) (name : ByteArray) : List ByteArray := (l.filter fun k => isKinB l k.name name).map (·.name)
def underR (l : List Knd) (name : ByteArray) : List ByteArray := if readyE l [name] = 0 then underL l name else []
theorem under_step {l : List Knd} {name : ByteArray} {k : Nat} {d : Knd} (hd : l[k]? = some d) {r u : List ByteArray} (h : u = r ++ ((l.drop k).filter fun k => isKinB l k.name name).map (·.name)) :
    u = (r ++ if isKinB l d.name name then [d.name] else []) ++ ((l.drop (k + 1)).filter fun k => isKinB l k.name name).map (·.name) := by
  rw [h, drop_cons hd, List.filter_cons]
  cases isKinB l d.name name <;> simp
set_option maxRecDepth 100000 in
set_option maxHeartbeats 4000000 in
theorem under_any (l : List Knd) (name : ByteArray) (v : Value) (w : World) (hv : Sl kndL w v l) (hnm : Sm name) :
    Calls Tryd.prog 19 #[v, .string name] w (RetL strL (underR l name) (readyE l [name]) w) := by
  have hb0 : Below w.heap.size w (w.alloc (.cells #[.string name] 9)) := (Below.refl _ _).alloc (Nat.le_refl _) _
  have h1 := ready_any l [name] v (.slice (some ⟨w.heap.size, 0, none⟩) 1 1) _ (hv.below hb0) (sl_strs [name] (fun x hx => by simp at hx; subst hx; exact hnm) (by simp [maxLen]) (heap_alloc_new _ _))
  have HV := Lib.hid hv
  obtain ⟨i0, ei, ez, ez1, ez2⟩ := info_parts str_info
  obtain ⟨A, c, rfl, _, _⟩ := hv.form
  clear hv
  go_enter Tryd.func19, Tryd.ntmps19
  go_wp2_with fail
  refine h1.mono ?_
  clear h1
  rintro e w1 ⟨rfl, hb1⟩
  have hB1 := hb0.trans (hb1.mono hb0.size)
  by_cases he : readyE l [name] = 0
  case neg =>
    have HE : Hid (errV (readyE l [name]) = .iface 80 (.int .i64 (readyE l [name])) ∧ underR l name = []) := ⟨errV_some he, by unfold underR; rw [if_neg he]⟩
    rw [errV_some he]
    clear he
    go_wp2_with fail
    go_ret2
    exact ⟨.slice none 0 0, by rw [HE.out.1]; rfl, by rw [HE.out.2]; exact Sl.nil 0 (Nat.zero_le _) none, hB1⟩
  obtain ⟨hR, _⟩ := readyE_zero he
  have HE : Hid (readyE l [name] = 0 ∧ underR l name = underL l name) := ⟨he, by unfold underR; rw [if_pos he]⟩
  have hl12 := hR.len
  have hl12' : (l.length : Int) ≤ 12 := by omega
  have HOF : Hid (∀ k ∈ l, k.ofs.length ≤ 64) := fun k hk => by
    obtain ⟨i, hi⟩ := List.mem_iff_getElem?.1 hk
    have := (hR.one i k hi).ofl; omega
  rw [errV_zero he]
  clear he hR
  go_wp2_with fail
  go_loopw [7, 19] (fun ov i wr => ∃ (k : Nat) (r : List ByteArray), k ≤ l.length ∧ i = .int .i64 k ∧ r.length ≤ k ∧ Below w1.heap.size w1 wr ∧ Own wr w1.heap.size 9 1 ov r.length (r.map Value.string) ∧
    Hid (∀ x ∈ r, Sm x) ∧ Hid (underL l name = r ++ ((l.drop k).filter fun k => isKinB l k.name name).map (·.name))) (fun _ i _ => l.length - (intOf i).toNat)
  case atStart => exact ⟨0, [], Nat.zero_le _, rfl, Nat.le_refl _, Below.refl _ _, Own.nil _ _ _ _, (by intro x hx; simp at hx), by unfold Hid; rw [List.drop_zero]; rfl⟩
  case round =>
    obtain ⟨k, r, hk, rfl, hrk, hbr, hor, HR, HU⟩ := hrel
    have hBr := hB1.trans (hbr.mono hB1.size)
    obtain ⟨Ar, cr, rfl, _, _⟩ := hor.form
    by_cases hlt : k < l.length
    · obtain ⟨d, hd⟩ : ∃ d, l[k]? = some d := ⟨_, List.getElem?_eq_getElem hlt⟩
      obtain ⟨b, o, rfl, u, x, hsm, hso, hsf, c0, c1, c2⟩ := knd_at (HV.out.below hBr) hd
      obtain ⟨A1, q1, rfl, _, _⟩ := hso.form
      obtain ⟨A2, q2, rfl, _, _⟩ := hsf.form
      obtain ⟨z0, z1, z2⟩ := cell_box3 wr (.string d.name) (.slice A1 d.ofs.length q1) (.slice A2 d.fields.length q2) 58
      have hbb := hbr.alloc hbr.size (.cells #[.string d.name, .slice A1 d.ofs.length q1, .slice A2 d.fields.length q2] 58)
      have hBb := hBr.alloc hBr.size (.cells #[.string d.name, .slice A1 d.ofs.length q1, .slice A2 d.fields.length q2] 58)
      have hob := hor.alloc (.cells #[.string d.name, .slice A1 d.ofs.length q1, .slice A2 d.fields.length q2] 58)
      have hlt' : (k : Int) < (l.length : Int) := by omega
      have hik := isKin_any l d.name name _ _ (HV.out.below hBb) hsm (by omega) HOF.out
      have HS := Lib.hid (under_step hd HU.out)
      clear hd HU hso hsf
      go_wp2_with fail
      refine hik.mono ?_
      clear hik
      rintro e w2 ⟨rfl, hb2⟩
      have y0 := cell_below hb2 z0
      have hb12 := hbb.trans (hb2.mono hbb.size)
      have hown2 := hob.below hb2
      clear z0 z1 z2 hob hbb hb2
      cases hq : isKinB l d.name name with
      | true =>
        have HN : Hid (underL l name = (r ++ [d.name]) ++ ((l.drop (k + 1)).filter fun k => isKinB l k.name name).map (·.name)) := by unfold Hid; rw [HS.out, hq]; simp
        have HR2 : Hid (∀ x ∈ r ++ [d.name], Sm x) := by
          intro x hx
          rcases List.mem_append.1 hx with h | h
          · exact HR.out x h
          · simp at h; subst h; exact hsm
        clear hq HS
        go_wp2_with (at_builtin; refine wpList_append_q _ rfl (.tmp 28) (.tmp 31) _ rfl w1.heap.size 9 i0 (.string .empty) 1 16 Tryd.underlying51 ei ez ez1 ez2 rfl (by decide) (.slice Ar r.length cr) r.length (r.map Value.string) rfl (hown2.alloc _) (some ⟨w2.heap.size, 0, none⟩) 1 1 [.string d.name] rfl rfl (fun _ => ⟨_, rfl, by simpa using cell_one_new w2 (.string d.name) 9⟩) (by simp [Value.oneCell']) (by unfold maxLen; omega) (by omega) (by have := hb12.size; simp; omega) ?_; intro v7 w7 hown7 hg7 hat7)
        have hb7 : Below w1.heap.size w1 w7 := (hb12.alloc hb12.size _).grown hg7 (by have := hb12.size; simp; omega) (fun kk hkk => (hown2.lt kk hkk).1)
        have ho7 : Own w7 w1.heap.size 9 1 v7 (r ++ [d.name]).length ((r ++ [d.name]).map Value.string) := by simpa using hown7
        have hl7 : (r ++ [d.name]).length ≤ k + 1 := by simp; omega
        clear hg7 hat7 hown7
        obtain ⟨A7, c7, rfl, _, _⟩ := ho7.form
        go_roundw
        case rel => exact ⟨k + 1, r ++ [d.name], by omega, by go_num, hl7, hb7, ho7, HR2, HN⟩
        case measure => simp [intOf]; omega
      | false =>
        have HN : Hid (underL l name = r ++ ((l.drop (k + 1)).filter fun k => isKinB l k.name name).map (·.name)) := by unfold Hid; rw [HS.out, hq]; simp
        clear hq HS
        go_wp2_with fail
        go_roundw
        case rel => exact ⟨k + 1, r, by omega, by go_num, by omega, hb12, hown2, HR, HN⟩
        case measure => simp [intOf]; omega
    · obtain rfl : k = l.length := by omega
      have HQ : Hid (underL l name = r) := by unfold Hid; rw [HU.out, List.drop_length]; simp
      have hsl := hor.strs HR.out
      go_wp2_with fail
      go_ret2
      exact ⟨.slice Ar r.length cr, by rw [HE.out.1, errV0]; rfl, by rw [HE.out.2, HQ.out]; exact hsl, hBr⟩
end Go.Proofs.YtdfeloeainabjaaDoor
