/- Contract: graph.Ends. -/
import Derived.Test.YtldonhgcifhpgaaGNode
import Derived.Test.YtldonhgcifhpgaaEndP
import Derived.Test.YtldonhgcifhpgaaSortI
import Derived.Test.YtldonhgcifhpgaaEqs
namespace Go.Proofs.Ytldonhgcifhpgaa
open Go Go.RowKit

/-- Ends of ties, in order. -/
def endsS (g : Grf) (id : Int) (bond : ByteArray) (back : Bool) : List Int := sortI (endsL g.ties id bond back)
theorem endsL_len (ts : List Tie) (id : Int) (bond : ByteArray) (back : Bool) : (endsL ts id bond back).length ≤ ts.length := by
  unfold endsL; rw [List.length_map]; exact List.length_filter_le _ _
theorem endsL_take {ts : List Tie} {k : Nat} {t : Tie} (ht : ts[k]? = some t) (id : Int) (bond : ByteArray) (back : Bool) :
    endsL (ts.take (k + 1)) id bond back = endsL (ts.take k) id bond back ++ (if endT back bond id t then [endX back t] else []) := by
  unfold endsL
  rw [List.take_add_one, ht, List.filter_append, List.map_append]
  congr 1
  show ((([t] : List Tie).filter (endT back bond id)).map (endX back)) = _
  rw [List.filter_cons]
  split <;> rfl
theorem endX_i64 {t : Tie} (h : t.ok) (back : Bool) : I64 (endX back t) := by
  unfold endX
  cases back
  · exact h.2.2
  · exact h.2.1
theorem eint_info : (Try.prog.info? 3).map (fun i => (i.zero, i.size, i.bytes)) = some (some (.int .i64 0), 1, 8) := by kernel_rfl
set_option maxRecDepth 100000 in
set_option maxHeartbeats 8000000 in
theorem ends_any (g : Grf) (id : Int) (bond : ByteArray) (back : Bool) (vn vt : Value) (w : World) (hG : GrfR w vn vt g) (hl : g.ties.length ≤ 1000) :
    Calls Try.prog 98 #[.agg #[vn, vt], .int .i64 id, .string bond, .bool back] w fun e w' => ∃ u, e = .returned u ∧ Own w' w.heap.size 3 1 u (endsS g id bond back).length ((endsS g id bond back).map (Value.int .i64)) ∧ (∀ x ∈ endsS g id bond back, I64 x) ∧ Below w.heap.size w w' := by
  obtain ⟨i0, ei, ez, ez1, ez2⟩ := info_parts eint_info
  obtain ⟨An, cn, rfl, _, _⟩ := hG.1.form
  obtain ⟨At, ct, rfl, _, _⟩ := hG.2.form
  have hb0 : Below w.heap.size w (w.alloc (.cells #[.slice An g.nodes.length cn, .slice At g.ties.length ct] 70)) := (Below.refl _ _).alloc (Nat.le_refl _) _
  obtain ⟨x0, x1⟩ := cell_box2 w (.slice An g.nodes.length cn) (.slice At g.ties.length ct) 70
  generalize hW0 : w.alloc (.cells #[.slice An g.nodes.length cn, .slice At g.ties.length ct] 70) = W0 at *
  have HG := Lib.hid (hG.below hb0)
  have hw0 := hb0.size
  have HE : Hid (endsS g id bond back = sortI (endsL g.ties id bond back)) := rfl
  clear hG
  cases back with
  | true =>
    go_enter Try.func98, Try.ntmps98
    go_wp2_with fail
    clear hW0
    go_loopw [9, 15] (fun v i wr => W0.heap.size ≤ wr.heap.size ∧ ∃ k : Nat, k ≤ g.ties.length ∧ i = .int .i64 k ∧ Below W0.heap.size W0 wr ∧ Own wr W0.heap.size 3 1 v (endsL (g.ties.take k) id bond true).length ((endsL (g.ties.take k) id bond true).map (Value.int .i64))) (fun _ i _ => g.ties.length - (intOf i).toNat)
    case atStart => exact ⟨Nat.le_refl _, 0, Nat.zero_le _, rfl, Below.refl _ _, Own.nil _ _ _ _⟩
    case round =>
      -- true: back; t.dst, t.src: what stands in the box
      obtain ⟨hsz, k, hk, rfl, hbr, hown⟩ := hrel
      have y1 := cell_below hbr x1
      have hBr := hb0.trans (hbr.mono hw0)
      obtain ⟨acc, hacc⟩ : ∃ acc, endsL (g.ties.take k) id bond true = acc := ⟨_, rfl⟩
      have hal : acc.length ≤ k := by
        rw [← hacc]
        exact Nat.le_trans (endsL_len _ _ _ _) (by rw [List.length_take]; omega)
      by_cases hlt : k < g.ties.length
      · obtain ⟨t, ht⟩ : ∃ t, g.ties[k]? = some t := ⟨_, List.getElem?_eq_getElem hlt⟩
        have hlt' : (k : Int) < (g.ties.length : Int) := by omega
        obtain ⟨b, o, rfl, htok, z0, z1, z2⟩ := tie_at (HG.out.below hbr).2 ht
        have HS : Hid (endsL (g.ties.take (k + 1)) id bond true = acc ++ if decide (t.bond = bond) && (t.dst == id) then [t.src] else []) := by
          have := endsL_take ht id bond true
          rw [hacc] at this
          exact this
        have HX : Hid (I64 (t.src)) := endX_i64 htok true
        have hbx : Below wr.heap.size wr (wr.alloc (.cells #[.string t.bond, .int .i64 (t.dst), .int .i64 (t.src)] 74)) := (Below.refl _ _).alloc (Nat.le_refl _) _
        obtain ⟨b0, b1, b2⟩ := cell_box3 wr (.string t.bond) (.int .i64 (t.dst)) (.int .i64 (t.src)) 74
        rw [hacc] at hown
        have hn1 : W0.heap.size ≤ (wr.alloc (.cells #[.string t.bond, .int .i64 (t.dst), .int .i64 (t.src)] 74)).heap.size := by simp; omega
        have HN1 := Lib.hid hn1
        clear ht hacc hn1
        go_upto_region 7 with fail
        generalize wr.alloc (.cells #[.string t.bond, .int .i64 (t.dst), .int .i64 (t.src)] 74) = W1 at *
        have hB1 := hbr.trans (hbx.mono hsz)
        have ho1 := hown.below hbx
        by_cases hq : t.bond = bond
        · have hqb : (t.bond.toList == bond.toList) = true := by rw [hq]; simp
          have hqd : decide (t.bond.toList = bond.toList) = true := by rw [hq]; simp
          have hqe : t.bond.toList = bond.toList := by rw [hq]
          have hqf : decide (t.bond = bond) = true := decide_eq_true hq
          by_cases hp : t.dst = id
          · have HS2 : Hid (endsL (g.ties.take (k + 1)) id bond true = acc ++ [t.src]) := by
              unfold Hid
              rw [HS.out, hqf, hp]
              simp
            have hp' : decide (t.dst = id) = true := decide_eq_true hp
            have hp'' : (t.dst == id) = true := by rw [hp]; simp
            clear hq hqf HS z0 z1 z2
            obtain ⟨Ap, cp, rfl, _, _⟩ := hown.form
            have ho2 := ho1.alloc (.cells #[.int .i64 (t.src)] 3)
            go_wp2_with (at_builtin; refine wpList_append_q _ rfl (.tmp 36) (.tmp 39) _ rfl W0.heap.size 3 i0 (.int .i64 0) 1 8 Try.underlying75 ei ez ez1 ez2 rfl (by decide) (.slice Ap acc.length cp) acc.length (acc.map (Value.int .i64)) rfl ho2 (some ⟨W1.heap.size, 0, none⟩) 1 1 [.int .i64 (t.src)] rfl rfl (fun _ => ⟨_, rfl, cell_one_new W1 (.int .i64 (t.src)) 3⟩) (by simp [Value.oneCell']) (by unfold maxLen; omega) (by omega) (by have := HN1.out; simp; omega) ?_; intro v7 w7 hown7 hg7 hat7)
            have hb7 : Below W0.heap.size W0 w7 := (hB1.alloc HN1.out _).grown hg7 (by have := HN1.out; simp; omega) (fun kk hkk => (ho1.lt kk hkk).1)
            have ho7 : Own w7 W0.heap.size 3 1 v7 (acc ++ [t.src]).length ((acc ++ [t.src]).map (Value.int .i64)) := by simpa using hown7
            have hs7 := hb7.size
            clear hg7 hat7 hown7
            go_roundw
            case rel => exact ⟨hs7, k + 1, by omega, by go_num, hb7, by rw [HS2.out]; exact ho7⟩
            case measure => simp [intOf]; omega
          · have HS2 : Hid (endsL (g.ties.take (k + 1)) id bond true = acc) := by
              unfold Hid
              rw [HS.out, hqf]
              simp [hp]
            have hp' : decide (t.dst = id) = false := decide_eq_false hp
            have hp'' : (t.dst == id) = false := by simp [hp]
            clear hq hqf HS z0 z1 z2
            have hs7 := hB1.size
            go_wp2_with fail
            go_roundw
            case rel => exact ⟨hs7, k + 1, by omega, by go_num, hB1, by rw [HS2.out]; exact ho1⟩
            case measure => simp [intOf]; omega
        · have hqb : (t.bond.toList == bond.toList) = false := by rw [bytes_beq]; exact decide_eq_false hq
          have hqc : ¬ t.bond.toList = bond.toList := by rw [bytes_eq]; exact hq
          have HS2 : Hid (endsL (g.ties.take (k + 1)) id bond true = acc) := by
            unfold Hid
            rw [HS.out, decide_eq_false hq]
            simp
          clear hq HS z0 z1 z2
          have hs7 := hB1.size
          go_wp2_with fail
          go_roundw
          case rel => exact ⟨hs7, k + 1, by omega, by go_num, hB1, by rw [HS2.out]; exact ho1⟩
          case measure => simp [intOf]; omega
      · obtain rfl : k = g.ties.length := by omega
        rw [List.take_length] at hacc
        have HAL : Hid (∀ x ∈ acc, I64 x) := fun x hx => by
          rw [← hacc] at hx
          unfold endsL at hx
          obtain ⟨t, ht, rfl⟩ := List.mem_map.1 hx
          obtain ⟨i, hi⟩ := List.mem_iff_getElem?.1 (List.mem_filter.1 ht).1
          obtain ⟨b, o, hv, htok, _⟩ := tie_at HG.out.2 hi
          exact endX_i64 htok _
        have HE2 : Hid (endsS g id bond true = sortI acc) := by unfold Hid; rw [HE.out, hacc]
        rw [List.take_length, hacc] at hown
        have hst := sortInts_any acc _ _ _ hown (by omega)
        obtain ⟨Ap, cp, rfl, _, _⟩ := hown.form
        clear hacc
        go_wp2_with fail
        refine hst.mono ?_
        clear hst
        rintro e w5 ⟨rfl, ho5, hg5⟩
        have hb5 : Below W0.heap.size W0 w5 := hbr.grown hg5 (by omega) (fun kk hkk => (hown.lt kk hkk).1)
        clear hown hg5
        go_wp2_with fail
        go_ret
        refine ⟨_, rfl, ?_, ?_, hb0.trans (hb5.mono hw0)⟩
        · rw [HE2.out]
          rw [sortI_len] at ho5 ⊢
          exact ho5.mono hw0
        · rw [HE2.out]
          exact fun x hx => HAL.out x ((sortI_perm acc).mem_iff.1 hx)
  | false =>
    go_enter Try.func98, Try.ntmps98
    go_wp2_with fail
    clear hW0
    go_loopw [9, 15] (fun v i wr => W0.heap.size ≤ wr.heap.size ∧ ∃ k : Nat, k ≤ g.ties.length ∧ i = .int .i64 k ∧ Below W0.heap.size W0 wr ∧ Own wr W0.heap.size 3 1 v (endsL (g.ties.take k) id bond false).length ((endsL (g.ties.take k) id bond false).map (Value.int .i64))) (fun _ i _ => g.ties.length - (intOf i).toNat)
    case atStart => exact ⟨Nat.le_refl _, 0, Nat.zero_le _, rfl, Below.refl _ _, Own.nil _ _ _ _⟩
    case round =>
      -- false: back; t.src, t.dst: what stands in the box
      obtain ⟨hsz, k, hk, rfl, hbr, hown⟩ := hrel
      have y1 := cell_below hbr x1
      have hBr := hb0.trans (hbr.mono hw0)
      obtain ⟨acc, hacc⟩ : ∃ acc, endsL (g.ties.take k) id bond false = acc := ⟨_, rfl⟩
      have hal : acc.length ≤ k := by
        rw [← hacc]
        exact Nat.le_trans (endsL_len _ _ _ _) (by rw [List.length_take]; omega)
      by_cases hlt : k < g.ties.length
      · obtain ⟨t, ht⟩ : ∃ t, g.ties[k]? = some t := ⟨_, List.getElem?_eq_getElem hlt⟩
        have hlt' : (k : Int) < (g.ties.length : Int) := by omega
        obtain ⟨b, o, rfl, htok, z0, z1, z2⟩ := tie_at (HG.out.below hbr).2 ht
        have HS : Hid (endsL (g.ties.take (k + 1)) id bond false = acc ++ if decide (t.bond = bond) && (t.src == id) then [t.dst] else []) := by
          have := endsL_take ht id bond false
          rw [hacc] at this
          exact this
        have HX : Hid (I64 (t.dst)) := endX_i64 htok false
        have hbx : Below wr.heap.size wr (wr.alloc (.cells #[.string t.bond, .int .i64 (t.src), .int .i64 (t.dst)] 74)) := (Below.refl _ _).alloc (Nat.le_refl _) _
        obtain ⟨b0, b1, b2⟩ := cell_box3 wr (.string t.bond) (.int .i64 (t.src)) (.int .i64 (t.dst)) 74
        rw [hacc] at hown
        have hn1 : W0.heap.size ≤ (wr.alloc (.cells #[.string t.bond, .int .i64 (t.src), .int .i64 (t.dst)] 74)).heap.size := by simp; omega
        have HN1 := Lib.hid hn1
        clear ht hacc hn1
        go_upto_region 7 with fail
        generalize wr.alloc (.cells #[.string t.bond, .int .i64 (t.src), .int .i64 (t.dst)] 74) = W1 at *
        have hB1 := hbr.trans (hbx.mono hsz)
        have ho1 := hown.below hbx
        by_cases hq : t.bond = bond
        · have hqb : (t.bond.toList == bond.toList) = true := by rw [hq]; simp
          have hqd : decide (t.bond.toList = bond.toList) = true := by rw [hq]; simp
          have hqe : t.bond.toList = bond.toList := by rw [hq]
          have hqf : decide (t.bond = bond) = true := decide_eq_true hq
          by_cases hp : t.src = id
          · have HS2 : Hid (endsL (g.ties.take (k + 1)) id bond false = acc ++ [t.dst]) := by
              unfold Hid
              rw [HS.out, hqf, hp]
              simp
            have hp' : decide (t.src = id) = true := decide_eq_true hp
            have hp'' : (t.src == id) = true := by rw [hp]; simp
            clear hq hqf HS z0 z1 z2
            obtain ⟨Ap, cp, rfl, _, _⟩ := hown.form
            have ho2 := ho1.alloc (.cells #[.int .i64 (t.dst)] 3)
            go_wp2_with (at_builtin; refine wpList_append_q _ rfl (.tmp 36) (.tmp 39) _ rfl W0.heap.size 3 i0 (.int .i64 0) 1 8 Try.underlying75 ei ez ez1 ez2 rfl (by decide) (.slice Ap acc.length cp) acc.length (acc.map (Value.int .i64)) rfl ho2 (some ⟨W1.heap.size, 0, none⟩) 1 1 [.int .i64 (t.dst)] rfl rfl (fun _ => ⟨_, rfl, cell_one_new W1 (.int .i64 (t.dst)) 3⟩) (by simp [Value.oneCell']) (by unfold maxLen; omega) (by omega) (by have := HN1.out; simp; omega) ?_; intro v7 w7 hown7 hg7 hat7)
            have hb7 : Below W0.heap.size W0 w7 := (hB1.alloc HN1.out _).grown hg7 (by have := HN1.out; simp; omega) (fun kk hkk => (ho1.lt kk hkk).1)
            have ho7 : Own w7 W0.heap.size 3 1 v7 (acc ++ [t.dst]).length ((acc ++ [t.dst]).map (Value.int .i64)) := by simpa using hown7
            have hs7 := hb7.size
            clear hg7 hat7 hown7
            go_roundw
            case rel => exact ⟨hs7, k + 1, by omega, by go_num, hb7, by rw [HS2.out]; exact ho7⟩
            case measure => simp [intOf]; omega
          · have HS2 : Hid (endsL (g.ties.take (k + 1)) id bond false = acc) := by
              unfold Hid
              rw [HS.out, hqf]
              simp [hp]
            have hp' : decide (t.src = id) = false := decide_eq_false hp
            have hp'' : (t.src == id) = false := by simp [hp]
            clear hq hqf HS z0 z1 z2
            have hs7 := hB1.size
            go_wp2_with fail
            go_roundw
            case rel => exact ⟨hs7, k + 1, by omega, by go_num, hB1, by rw [HS2.out]; exact ho1⟩
            case measure => simp [intOf]; omega
        · have hqb : (t.bond.toList == bond.toList) = false := by rw [bytes_beq]; exact decide_eq_false hq
          have hqc : ¬ t.bond.toList = bond.toList := by rw [bytes_eq]; exact hq
          have HS2 : Hid (endsL (g.ties.take (k + 1)) id bond false = acc) := by
            unfold Hid
            rw [HS.out, decide_eq_false hq]
            simp
          clear hq HS z0 z1 z2
          have hs7 := hB1.size
          go_wp2_with fail
          go_roundw
          case rel => exact ⟨hs7, k + 1, by omega, by go_num, hB1, by rw [HS2.out]; exact ho1⟩
          case measure => simp [intOf]; omega
      · obtain rfl : k = g.ties.length := by omega
        rw [List.take_length] at hacc
        have HAL : Hid (∀ x ∈ acc, I64 x) := fun x hx => by
          rw [← hacc] at hx
          unfold endsL at hx
          obtain ⟨t, ht, rfl⟩ := List.mem_map.1 hx
          obtain ⟨i, hi⟩ := List.mem_iff_getElem?.1 (List.mem_filter.1 ht).1
          obtain ⟨b, o, hv, htok, _⟩ := tie_at HG.out.2 hi
          exact endX_i64 htok _
        have HE2 : Hid (endsS g id bond false = sortI acc) := by unfold Hid; rw [HE.out, hacc]
        rw [List.take_length, hacc] at hown
        have hst := sortInts_any acc _ _ _ hown (by omega)
        obtain ⟨Ap, cp, rfl, _, _⟩ := hown.form
        clear hacc
        go_wp2_with fail
        refine hst.mono ?_
        clear hst
        rintro e w5 ⟨rfl, ho5, hg5⟩
        have hb5 : Below W0.heap.size W0 w5 := hbr.grown hg5 (by omega) (fun kk hkk => (hown.lt kk hkk).1)
        clear hown hg5
        go_wp2_with fail
        go_ret
        refine ⟨_, rfl, ?_, ?_, hb0.trans (hb5.mono hw0)⟩
        · rw [HE2.out]
          rw [sortI_len] at ho5 ⊢
          exact ho5.mono hw0
        · rw [HE2.out]
          exact fun x hx => HAL.out x ((sortI_perm acc).mem_iff.1 hx)
end Go.Proofs.Ytldonhgcifhpgaa
