/- Contracts of the references: kinref1.In, kinref1.Is, kinref2.Under. -/
import Derived.Test.YtdfeloeainabjaaDoorRefC
namespace Go.Proofs.YtdfeloeainabjaaDoor
open Go Go.RowKit

theorem any_hit {D : Type} {p : D → Bool} {l : List D} {k : Nat} {d : D} (h : l[k]? = some d) (hp : p d = true) : l.any p = true := List.any_eq_true.2 ⟨d, List.mem_of_getElem? h, hp⟩
theorem any_miss {D : Type} {p : D → Bool} {l : List D} (h : ∀ j x, j < l.length → l[j]? = some x → p x = false) : l.any p = false := by
  cases hq : l.any p with
  | false => rfl
  | true =>
    obtain ⟨d, hd, hp⟩ := List.any_eq_true.1 hq
    obtain ⟨j, hj⟩ := List.mem_iff_getElem?.1 hd
    rw [h j d (List.getElem?_eq_some_iff.1 hj).1 hj] at hp; cases hp
set_option maxHeartbeats 1000000 in
theorem rin_any (l : List ByteArray) (s : ByteArray) (v : Value) (w : World) (hv : Sl strL w v l) : Calls Tryd.prog 54 #[v, .string s] w fun e w' => e = .returned (.bool (l.any fun y => decide (s = y))) ∧ w = w' := by
  obtain ⟨A, c, rfl, hlc, hcm⟩ := hv.form
  unfold maxLen at hcm
  go_enter Tryd.func54, Tryd.ntmps54
  go_wp2_with fail
  go_loop [5] (fun i => ∃ k : Nat, k ≤ l.length ∧ i = .int .i64 k ∧ Hid (∀ j x, j < k → l[j]? = some x → decide (s = x) = false)) (fun i => l.length - (intOf i).toNat)
  case atStart => exact ⟨0, Nat.zero_le _, rfl, fun j x hj => absurd hj (Nat.not_lt_zero _)⟩
  case round =>
    obtain ⟨k, hk, rfl, HA⟩ := hrel
    by_cases hlt : k < l.length
    · obtain ⟨d, hd⟩ : ∃ d, l[k]? = some d := ⟨_, List.getElem?_eq_getElem hlt⟩
      obtain ⟨b, o, rfl, _, c0⟩ := str_at hv hd
      have HD : Hid (l[k]? = some d) := hd
      clear hd hv
      by_cases hq0 : s = d
      · have HE : Hid ((l.any fun y => decide (s = y)) = true) := any_hit (p := fun y => decide (s = y)) HD.out (decide_eq_true hq0)
        subst hq0
        go_wp2_with fail
        go_ret
        exact ⟨by rw [HE.out]; rfl, rfl⟩
      · have hq : decide (s = d) = false := decide_eq_false hq0
        have hq2 : ¬ d = s := fun e => hq0 e.symm
        have hqb : (d.toList == s.toList) = false := by rw [bytes_beq]; exact decide_eq_false hq2
        have HS : Hid (∀ j y, j < k + 1 → l[j]? = some y → decide (s = y) = false) := miss_step (p := fun y => decide (s = y)) HA.out HD.out hq
        go_wp2_with fail
        go_round
        case rel => exact ⟨k + 1, by omega, by go_num, HS⟩
        case measure => simp [intOf]; omega
    · have hkl : k = l.length := by omega
      subst hkl
      have HE : Hid ((l.any fun y => decide (s = y)) = false) := any_miss (p := fun y => decide (s = y)) HA.out
      clear hv
      go_wp2_with fail
      go_ret
      exact ⟨by rw [HE.out]; rfl, rfl⟩
theorem ris_any (l : List Knd) (a b : ByteArray) (v : Value) (w : World) (hv : Sl kndL w v l) (hw : Wf l) (hn : 0 ≤ kFind l a) (hll : l.length ≤ 12) :
    Calls Tryd.prog 29 #[v, .string a, .string b] w fun e w' => e = .returned (.bool (isKinB l a b)) ∧ Below w.heap.size w w' := by
  have h1 := rkin_any l a v w hv hw hn hll
  obtain ⟨A, c, rfl, _, _⟩ := hv.form
  clear hv hw
  go_enter Tryd.func29, Tryd.ntmps29
  go_wp2_with fail
  refine h1.mono ?_
  clear h1
  rintro e w1 ⟨u, rfl, hu, hb1⟩
  have h2 := rin_any (kinL l a) b u w1 hu
  obtain ⟨A1, c1, rfl, _, _⟩ := hu.form
  clear hu
  go_wp2_with fail
  refine h2.mono ?_
  clear h2
  rintro e w2 ⟨rfl, rfl⟩
  have HB : Hid (((kinL l a).any fun y => decide (b = y)) = isKinB l a b) := rfl
  generalize ((kinL l a).any fun y => decide (b = y)) = q at *
  go_wp2_with fail
  go_ret
  exact ⟨ret_bool HB.out, hb1⟩
set_option maxRecDepth 100000 in
set_option maxHeartbeats 4000000 in
theorem runder_any (l : List Knd) (name : ByteArray) (v : Value) (w : World) (hv : Sl kndL w v l) (hw : Wf l) (hll : l.length ≤ 12) :
    Calls Tryd.prog 25 #[v, .string name] w fun e w' => ∃ u, e = .returned u ∧ Sl strL w' u (underL l name) ∧ Below w.heap.size w w' := by
  have HV := Lib.hid hv
  have HW := Lib.hid hw
  obtain ⟨i0, ei, ez, ez1, ez2⟩ := info_parts str_info
  obtain ⟨A, c, rfl, _, _⟩ := hv.form
  have hl12' : (l.length : Int) ≤ 12 := by omega
  clear hv hw
  go_enter Tryd.func25, Tryd.ntmps25
  go_wp2_with fail
  go_loopw [5, 6] (fun ov i wr => ∃ (k : Nat) (r : List ByteArray), k ≤ l.length ∧ i = .int .i64 k ∧ r.length ≤ k ∧ Below w.heap.size w wr ∧ Own wr w.heap.size 9 1 ov r.length (r.map Value.string) ∧
    Hid (∀ x ∈ r, Sm x) ∧ Hid (underL l name = r ++ ((l.drop k).filter fun k => isKinB l k.name name).map (·.name))) (fun _ i _ => l.length - (intOf i).toNat)
  case atStart => exact ⟨0, [], Nat.zero_le _, rfl, Nat.le_refl _, Below.refl _ _, Own.nil _ _ _ _, (by intro x hx; simp at hx), by unfold Hid; rw [List.drop_zero]; rfl⟩
  case round =>
    obtain ⟨k, r, hk, rfl, hrk, hbr, hor, HR, HU⟩ := hrel
    obtain ⟨Ar, cr, rfl, _, _⟩ := hor.form
    by_cases hlt : k < l.length
    · obtain ⟨d, hd⟩ : ∃ d, l[k]? = some d := ⟨_, List.getElem?_eq_getElem hlt⟩
      obtain ⟨b, o, rfl, u, x, hsm, _, _, c0, _, _⟩ := knd_at (HV.out.below hbr) hd
      have hlt' : (k : Int) < (l.length : Int) := by omega
      have hik := ris_any l d.name name _ _ (HV.out.below hbr) HW.out (kFind_mem (List.mem_of_getElem? hd)) (by omega)
      have HS := Lib.hid (under_step hd HU.out)
      clear hd HU
      go_wp2_with fail
      refine hik.mono ?_
      clear hik
      rintro e w2 ⟨rfl, hb2⟩
      have y0 := cell_below hb2 c0
      have hb12 := hbr.trans (hb2.mono hbr.size)
      have hown2 := hor.below hb2
      clear c0 hb2
      cases hq : isKinB l d.name name with
      | true =>
        have HN : Hid (underL l name = (r ++ [d.name]) ++ ((l.drop (k + 1)).filter fun k => isKinB l k.name name).map (·.name)) := by unfold Hid; rw [HS.out, hq]; simp
        have HR2 : Hid (∀ x ∈ r ++ [d.name], Sm x) := by
          intro x hx
          rcases List.mem_append.1 hx with h | h
          · exact HR.out x h
          · simp at h; subst h; exact hsm
        clear hq HS
        go_wp2_with (at_builtin; refine wpList_append_q _ rfl (.tmp 23) (.tmp 29) _ rfl w.heap.size 9 i0 (.string .empty) 1 16 Tryd.underlying51 ei ez ez1 ez2 rfl (by decide) (.slice Ar r.length cr) r.length (r.map Value.string) rfl (hown2.alloc _) (some ⟨w2.heap.size, 0, none⟩) 1 1 [.string d.name] rfl rfl (fun _ => ⟨_, rfl, by simpa using cell_one_new w2 (.string d.name) 9⟩) (by simp [Value.oneCell']) (by unfold maxLen; omega) (by omega) (by have := hb12.size; simp; omega) ?_; intro v7 w7 hown7 hg7 hat7)
        have hb7 : Below w.heap.size w w7 := (hb12.alloc hb12.size _).grown hg7 (by have := hb12.size; simp; omega) (fun kk hkk => (hown2.lt kk hkk).1)
        have ho7 : Own w7 w.heap.size 9 1 v7 (r ++ [d.name]).length ((r ++ [d.name]).map Value.string) := by simpa using hown7
        have hl7 : (r ++ [d.name]).length ≤ k + 1 := by simp; omega
        clear hg7 hat7 hown7
        obtain ⟨A7, c7, rfl, _, _⟩ := ho7.form
        go_roundw
        case rel => exact ⟨k + 1, r ++ [d.name], by omega, by go_num, hl7, hb7, ho7, HR2, HN⟩
        case measure => simp [intOf]; omega
      | false =>
        have HN : Hid (underL l name = r ++ ((l.drop (k + 1)).filter fun k => isKinB l k.name name).map (·.name)) := by unfold Hid; rw [HS.out, hq]; simp
        clear hq HS
        go_wp2_with fail
        go_roundw
        case rel => exact ⟨k + 1, r, by omega, by go_num, by omega, hb12, hown2, HR, HN⟩
        case measure => simp [intOf]; omega
    · obtain rfl : k = l.length := by omega
      have HQ : Hid (underL l name = r) := by unfold Hid; rw [HU.out, List.drop_length]; simp
      have hsl := hor.strs HR.out
      go_wp2_with fail
      go_ret
      exact ⟨.slice Ar r.length cr, rfl, by rw [HQ.out]; exact hsl, hbr⟩
end Go.Proofs.YtdfeloeainabjaaDoor
