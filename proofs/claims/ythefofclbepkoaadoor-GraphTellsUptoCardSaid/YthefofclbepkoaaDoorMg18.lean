/- Parts: GtE. -/
import Derived.Test.YthefofclbepkoaaDoorMg17
import Derived.Deep.DeepCutAuto
/- Contract of the references: kinref1.Ends: ends of ties of a bond at a node, rising. No condition. -/
namespace Go.Proofs.YthefofclbepkoaaDoor
open Go Go.RowKit

/-- What has been put so far. -/
def EndsQ (g : Grf) (id : Int) (bond : ByteArray) (back : Bool) (k : Nat) (acc : List Int) : Prop := (∀ x ∈ acc, I64 x) ∧ acc.Pairwise (· ≤ ·) ∧ acc.Perm (endsL (g.ties.take k) id bond back)
theorem EndsQ.keep {g : Grf} {id : Int} {bond : ByteArray} {back : Bool} {k : Nat} {acc : List Int} {t : Tie} (h : EndsQ g id bond back k acc) (ht : g.ties[k]? = some t) (hq : endT back bond id t = false) : EndsQ g id bond back (k + 1) acc := by
  obtain ⟨h1, h2, h3⟩ := h
  refine ⟨h1, h2, ?_⟩
  rw [endsL_take ht, hq]
  simpa using h3
theorem EndsQ.put {g : Grf} {id : Int} {bond : ByteArray} {back : Bool} {k p : Nat} {acc : List Int} {t : Tie} (h : EndsQ g id bond back k acc) (ht : g.ties[k]? = some t) (hok : t.ok) (hq : endT back bond id t = true) (hp : p ≤ acc.length)
    (hA : ∀ i d, p ≤ i → acc[i]? = some d → endX back t < d) (hB : p = 0 ∨ ∃ q, acc[p - 1]? = some q ∧ q ≤ endX back t) : EndsQ g id bond back (k + 1) (acc.take p ++ endX back t :: acc.drop p) := by
  obtain ⟨h1, h2, h3⟩ := h
  refine ⟨fun x hx => ?_, ins_rise h2 hp hA hB, ?_⟩
  · have := (ins_perm acc (endX back t) p).mem_iff.1 hx
    rcases List.mem_cons.1 this with rfl | hm
    · exact endX_i64 hok back
    · exact h1 x hm
  · rw [endsL_take ht, hq]
    refine (ins_perm acc (endX back t) p).trans ?_
    simp only [if_true]
    exact (List.Perm.cons _ h3).trans (List.perm_append_singleton _ _).symm
set_option maxRecDepth 100000 in
set_option maxHeartbeats 8000000 in
theorem rends_any (g : Grf) (id : Int) (bond : ByteArray) (back : Bool) (vn vt : Value) (w : World) (hG : GrfR w vn vt g) (hl : g.ties.length ≤ 900) :
    Calls Tryd.prog 20 #[.agg #[vn, vt], .int .i64 id, .string bond, .bool back] w fun e w' => ∃ u, e = .returned u ∧ Sl intL w' u (endsS g id bond back) ∧ Below w.heap.size w w' := by
  obtain ⟨i0, ei, ez, ez1, ez2⟩ := info_parts eint_info
  obtain ⟨An, cn, rfl, _, _⟩ := hG.1.form
  obtain ⟨At, ct, rfl, _, _⟩ := hG.2.form
  have hb0 : Below w.heap.size w (w.alloc (.cells #[.slice An g.nodes.length cn, .slice At g.ties.length ct] 47)) := (Below.refl _ _).alloc (Nat.le_refl _) _
  obtain ⟨x0, x1⟩ := cell_box2 w (.slice An g.nodes.length cn) (.slice At g.ties.length ct) 47
  have HG := Lib.hid (hG.below hb0)
  clear hG
  cases back with
  | false =>
    go_enter Tryd.func20, Tryd.ntmps20
    go_wp2_with fail
    generalize w.alloc (.cells #[.slice An g.nodes.length cn, .slice At g.ties.length ct] 47) = w1 at *
    have X1 := Lib.hid x1
    clear x0
    go_loopw [9, 10] (fun ov i wr => ∃ (k : Nat) (acc : List Int), k ≤ g.ties.length ∧ i = .int .i64 k ∧ Below w1.heap.size w1 wr ∧ Own wr w1.heap.size 3 1 ov acc.length (acc.map (Value.int .i64)) ∧ acc.length ≤ k ∧ Hid (EndsQ g id bond false k acc)) (fun _ i _ => g.ties.length - (intOf i).toNat)
    case atStart => exact ⟨0, [], Nat.zero_le _, rfl, Below.refl _ _, Own.nil _ _ _ _, Nat.le_refl _, ⟨by simp, List.Pairwise.nil, by simp [endsL]⟩⟩
    case round =>
      clear x1
      -- false: back; t.dst: the number; t.src: the number that is asked
      obtain ⟨k, acc, hk, rfl, hbr, hown, hacc, HQ⟩ := hrel
      obtain ⟨Ao, co, rfl, hoc, hom⟩ := hown.form
      have x1 := cell_below hbr X1.out
      have hBr := hb0.trans (hbr.mono hb0.size)
      by_cases hlt : k < g.ties.length
      · obtain ⟨t, ht⟩ : ∃ d, g.ties[k]? = some d := ⟨_, List.getElem?_eq_getElem hlt⟩
        obtain ⟨gb, o, rfl, hok, q0, q1, q2⟩ := tie_at (HG.out.below hbr).2 ht
        have hlt' : (k : Int) < (g.ties.length : Int) := by omega
        have hk120 : (k : Int) ≤ 1000 := by omega
        have hacc' : (acc.length : Int) ≤ 1000 := by omega
        have ha1 : Below wr.heap.size wr (wr.alloc (.cells #[.string t.bond, .int .i64 t.src, .int .i64 t.dst] 102)) := (Below.refl _ _).alloc (Nat.le_refl _) _
        obtain ⟨z0, z1, z2⟩ := cell_box3 wr (.string t.bond) (.int .i64 t.src) (.int .i64 t.dst) 102
        have hbx := hbr.trans (ha1.mono hbr.size)
        have hown := hown.below ha1
        have HET : Hid (endT false bond id t = (decide (t.bond = bond) && (t.src == id))) := rfl
        have HKEEP : Hid (endT false bond id t = false → EndsQ g id bond false (k + 1) acc) := HQ.out.keep ht
        have HPUT0 : Hid (endT false bond id t = true → ∀ p, p ≤ acc.length → (∀ i d, p ≤ i → acc[i]? = some d → t.dst < d) → (p = 0 ∨ ∃ q, acc[p - 1]? = some q ∧ q ≤ t.dst) → EndsQ g id bond false (k + 1) (acc.take p ++ (t.dst) :: acc.drop p)) := fun h p hp hA hB => HQ.out.put ht hok h hp hA hB
        have hbb : (t.bond.toList == bond.toList) = decide (t.bond = bond) := bytes_beq t.bond bond
        clear ht hok
        go_upto_region 6 with fail
        generalize wr.alloc (.cells #[.string t.bond, .int .i64 t.src, .int .i64 t.dst] 102) = w3 at *
        clear q0 q1 q2 x1
        by_cases hq : t.bond = bond
        · rw [decide_eq_true hq] at hbb
          have hbc : t.bond.toList = bond.toList := by rw [hq]
          by_cases hi : t.src = id
          · have HPUT := Lib.hid (HPUT0.out (by rw [HET.out, decide_eq_true hq, hi]; simp))
            have hib : (t.src == id) = true := by rw [beq_iff_eq]; exact hi
            clear HKEEP HPUT0 HET hq hi
            -- false: back; t.dst: the number
            go_wp2_with fail
            go_loopw [13] (fun tv wx => ∃ (z : Int) (p : Nat), p ≤ acc.length ∧ z = p ∧ tv = .int .i64 z ∧ Below w1.heap.size w1 wx ∧ Below w3.heap.size w3 wx ∧ Hid (∀ i d, p ≤ i → acc[i]? = some d → t.dst < d)) (fun tv _ => (intOf tv).toNat)
            case atStart => exact ⟨acc.length, acc.length, Nat.le_refl _, rfl, rfl, hbx, Below.refl _ _, fun i d hi hd => by rw [List.getElem?_eq_none hi] at hd; cases hd⟩
            case round =>
              obtain ⟨z, p, hp, hzp, rfl, hby, hb3, HA⟩ := hrel
              have hownr := hown.below hb3
              cases p with
              | zero =>
                obtain rfl : z = 0 := by omega
                clear hzp
                have hz0 : ¬ ((0 : Int) < 0) := by omega
                have HP : Hid (EndsQ g id bond false (k + 1) (acc.take 0 ++ (t.dst) :: acc.drop 0)) := HPUT.out 0 hp HA.out (.inl rfl)
                rcases hown.2 with ⟨hv0, h0⟩ | ⟨bo, oo, cap, cur, hv0, _⟩
                · injection hv0 with hA _ hc'
                  subst hA; subst hc'
                  -- 0: place; (fun h => absurd h (by omega)): the head is read; (fun h => (Nat.lt_irrefl _ h).elim): the tail is read; t.dst: the number
                  have hws := hby.size
                  go_wp2_with (first
                    | (at_builtin; refine wpList_append_q _ rfl (.tmp 70) (.tmp 73) _ rfl w1.heap.size 3 i0 (.int .i64 0) 1 8 Tryd.underlying57 ei ez ez1 ez2 rfl (by decide) (.slice none 0 0) 0 [] rfl (Own.nil _ _ _ _) _ (0) _ ((acc.take (0)).map (Value.int .i64)) rfl (by rw [List.length_map, List.length_take]; omega) (fun h => absurd h (by omega)) (one_ints _) (by unfold maxLen; omega) (by omega) (by omega) ?_
                       intro v7 w7 hown7 hg7 hat7
                       have hs7 := hg7.size
                       have hb7 : Below wr.heap.size wr w7 := (Below.refl _ _).grown hg7 (by omega) (fun k e => by cases e)
                       have hB7 : ∀ k, v7.ownBlock = some k → k = wr.heap.size := fun k e => by
                         rcases hat7 with h | h
                         · rw [h] at e; cases e
                         · rw [h] at e; injection e with e; omega
                       have hsw7 := hb7.size)
                    | (at_builtin; refine wpList_append_q _ rfl (.tmp 75) (.tmp 77) _ rfl w1.heap.size 3 i0 (.int .i64 0) 1 8 Tryd.underlying57 ei ez ez1 ez2 rfl (by decide) v7 (0 + (0)) ([] ++ (acc.take (0)).map (Value.int .i64)) rfl (hown7.alloc _) _ 1 1 [.int .i64 (t.dst)] rfl rfl (fun _ => ⟨_, rfl, fun j u hj => by rw [addr_add, Nat.zero_add, World.cell?_alloc_at _ _ _ _ rfl]; simpa using hj⟩) (fun u hu => by simp at hu; subst hu; rfl) (by unfold maxLen; omega) (by omega) (by simp; omega) ?_
                       intro v8 w8 hown8 hg8 hat8
                       have hs8 := hg8.size
                       have hb8 : Below wr.heap.size wr w8 := (hb7.alloc hb7.size _).grown hg8 (by simp at hs8 ⊢; omega) (fun k e => by rw [hB7 k e]; exact Nat.le_refl _)
                       have hsw8 := hb8.size
                       have hown8a := hownr.below hb8)
                    | (at_builtin; refine wpList_append_q _ rfl (.tmp 79) (.tmp 82) _ rfl w1.heap.size 3 i0 (.int .i64 0) 1 8 Tryd.underlying57 ei ez ez1 ez2 rfl (by decide) v8 (0 + (0) + 1) ([] ++ (acc.take (0)).map (Value.int .i64) ++ [.int .i64 (t.dst)]) rfl hown8 _ _ _ ((acc.drop (0)).map (Value.int .i64)) rfl (by rw [List.length_map, List.length_drop]; omega) (fun h => (Nat.lt_irrefl _ h).elim) (one_ints _) (by unfold maxLen; omega) (by omega) (by omega) ?_
                       intro v9 w9 hown9 hg9 hat9))
                  have hb9 : Below wr.heap.size wr w9 := hb8.grown hg9 (by have := hg9.size; omega) (fun k e => by
                    rcases hat8 with h | h
                    · rw [h] at e; rw [hB7 k e]; exact Nat.le_refl _
                    · rw [h] at e; injection e with e; simp at e; omega)
                  have hby9 := hby.trans (hb9.mono hby.size)
                  have hl9 : (acc.take (0) ++ (t.dst) :: acc.drop (0)).length = acc.length + 1 := by simp <;> omega
                  have ho9 : Own w9 w1.heap.size 3 1 v9 (acc.take (0) ++ (t.dst) :: acc.drop (0)).length ((acc.take (0) ++ (t.dst) :: acc.drop (0)).map (Value.int .i64)) := hown9.cast (by rw [hl9]; omega) (by simp)
                  have hl2 : (acc.take (0) ++ (t.dst) :: acc.drop (0)).length ≤ k + 1 := by omega
                  go_roundw
                  case rel => exact ⟨k + 1, _, by omega, by go_num, hby9, ho9, hl2, HP.out⟩
                  case measure => simp [intOf]; omega
                · injection hv0 with hA _ hc'
                  subst hA
                  clear hc'
                  -- 0: place; (fun h => absurd h (by omega)): the head is read; (fun h => ⟨⟨bo, oo + 0, none⟩, by have hne : ¬ co = 0 := (by omega); simp [hne, addr_add], read_dropI hown8a⟩): the tail is read; t.dst: the number
                  have hws := hby.size
                  go_wp2_with (first
                    | (at_builtin; refine wpList_append_q _ rfl (.tmp 70) (.tmp 73) _ rfl w1.heap.size 3 i0 (.int .i64 0) 1 8 Tryd.underlying57 ei ez ez1 ez2 rfl (by decide) (.slice none 0 0) 0 [] rfl (Own.nil _ _ _ _) _ (0) _ ((acc.take (0)).map (Value.int .i64)) rfl (by rw [List.length_map, List.length_take]; omega) (fun h => absurd h (by omega)) (one_ints _) (by unfold maxLen; omega) (by omega) (by omega) ?_
                       intro v7 w7 hown7 hg7 hat7
                       have hs7 := hg7.size
                       have hb7 : Below wr.heap.size wr w7 := (Below.refl _ _).grown hg7 (by omega) (fun k e => by cases e)
                       have hB7 : ∀ k, v7.ownBlock = some k → k = wr.heap.size := fun k e => by
                         rcases hat7 with h | h
                         · rw [h] at e; cases e
                         · rw [h] at e; injection e with e; omega
                       have hsw7 := hb7.size)
                    | (at_builtin; refine wpList_append_q _ rfl (.tmp 75) (.tmp 77) _ rfl w1.heap.size 3 i0 (.int .i64 0) 1 8 Tryd.underlying57 ei ez ez1 ez2 rfl (by decide) v7 (0 + (0)) ([] ++ (acc.take (0)).map (Value.int .i64)) rfl (hown7.alloc _) _ 1 1 [.int .i64 (t.dst)] rfl rfl (fun _ => ⟨_, rfl, fun j u hj => by rw [addr_add, Nat.zero_add, World.cell?_alloc_at _ _ _ _ rfl]; simpa using hj⟩) (fun u hu => by simp at hu; subst hu; rfl) (by unfold maxLen; omega) (by omega) (by simp; omega) ?_
                       intro v8 w8 hown8 hg8 hat8
                       have hs8 := hg8.size
                       have hb8 : Below wr.heap.size wr w8 := (hb7.alloc hb7.size _).grown hg8 (by simp at hs8 ⊢; omega) (fun k e => by rw [hB7 k e]; exact Nat.le_refl _)
                       have hsw8 := hb8.size
                       have hown8a := hownr.below hb8)
                    | (at_builtin; refine wpList_append_q _ rfl (.tmp 79) (.tmp 82) _ rfl w1.heap.size 3 i0 (.int .i64 0) 1 8 Tryd.underlying57 ei ez ez1 ez2 rfl (by decide) v8 (0 + (0) + 1) ([] ++ (acc.take (0)).map (Value.int .i64) ++ [.int .i64 (t.dst)]) rfl hown8 _ _ _ ((acc.drop (0)).map (Value.int .i64)) rfl (by rw [List.length_map, List.length_drop]; omega) (fun h => ⟨⟨bo, oo + 0, none⟩, by have hne : ¬ co = 0 := (by omega); simp [hne, addr_add], read_dropI hown8a⟩) (one_ints _) (by unfold maxLen; omega) (by omega) (by omega) ?_
                       intro v9 w9 hown9 hg9 hat9))
                  have hb9 : Below wr.heap.size wr w9 := hb8.grown hg9 (by have := hg9.size; omega) (fun k e => by
                    rcases hat8 with h | h
                    · rw [h] at e; rw [hB7 k e]; exact Nat.le_refl _
                    · rw [h] at e; injection e with e; simp at e; omega)
                  have hby9 := hby.trans (hb9.mono hby.size)
                  have hl9 : (acc.take (0) ++ (t.dst) :: acc.drop (0)).length = acc.length + 1 := by simp <;> omega
                  have ho9 : Own w9 w1.heap.size 3 1 v9 (acc.take (0) ++ (t.dst) :: acc.drop (0)).length ((acc.take (0) ++ (t.dst) :: acc.drop (0)).map (Value.int .i64)) := hown9.cast (by rw [hl9]; omega) (by simp)
                  have hl2 : (acc.take (0) ++ (t.dst) :: acc.drop (0)).length ≤ k + 1 := by omega
                  go_roundw
                  case rel => exact ⟨k + 1, _, by omega, by go_num, hby9, ho9, hl2, HP.out⟩
                  case measure => simp [intOf]; omega
              | succ p =>
                obtain rfl : z = (p : Int) + 1 := by omega
                clear hzp
                obtain ⟨q, hq⟩ : ∃ d, acc[p]? = some d := ⟨_, List.getElem?_eq_getElem (by omega)⟩
                obtain ⟨bo, oo, hAo, _, r0⟩ := int_at (hownr.ints HQ.out.1) hq
                subst hAo
                have hpl : (p : Int) < (acc.length : Int) := by omega
                have hp0 : (0 : Int) < (p : Int) + 1 := by omega
                have hpw : IntKind.i64.wrap ((p : Int) + 1 - 1) = (p : Int) := by rw [IntWalk.i64_in _ (by omega)]; omega
                by_cases hc : t.dst < q
                · have HN : Hid (∀ i d, p ≤ i → acc[i]? = some d → t.dst < d) := fun i d hi hd => by
                    by_cases hip : i = p
                    · subst hip; rw [hq] at hd; injection hd with hd; subst hd; exact hc
                    · exact HA.out i d (by omega) hd
                  clear hq
                  go_wp2_with fail
                  go_roundw
                  case rel => exact ⟨p, p, by omega, rfl, by go_num, hby, hb3, HN⟩
                  case measure => simp [intOf]
                · have hc' : q ≤ t.dst := by omega
                  have HP : Hid (EndsQ g id bond false (k + 1) (acc.take (p + 1) ++ (t.dst) :: acc.drop (p + 1))) := HPUT.out (p + 1) hp HA.out (.inr ⟨q, by simpa using hq, hc'⟩)
                  have hpo : (p : Int) + 1 ≤ (co : Int) := by omega
                  have hpl' : (p : Int) + 1 ≤ (acc.length : Int) := by omega
                  clear hc hq
                  -- p + 1: place; (fun _ => ⟨_, rfl, read_takeI hownr⟩): the head is read; (fun h => ⟨⟨bo, oo + (p + 1), none⟩, by have hne : ¬ co = p + 1 := (by omega); simp [hne, addr_add], read_dropI hown8a⟩): the tail is read; t.dst: the number
                  have hws := hby.size
                  go_wp2_with (first
                    | (at_builtin; refine wpList_append_q _ rfl (.tmp 70) (.tmp 73) _ rfl w1.heap.size 3 i0 (.int .i64 0) 1 8 Tryd.underlying57 ei ez ez1 ez2 rfl (by decide) (.slice none 0 0) 0 [] rfl (Own.nil _ _ _ _) _ (p + 1) _ ((acc.take (p + 1)).map (Value.int .i64)) rfl (by rw [List.length_map, List.length_take]; omega) (fun _ => ⟨_, rfl, read_takeI hownr⟩) (one_ints _) (by unfold maxLen; omega) (by omega) (by omega) ?_
                       intro v7 w7 hown7 hg7 hat7
                       have hs7 := hg7.size
                       have hb7 : Below wr.heap.size wr w7 := (Below.refl _ _).grown hg7 (by omega) (fun k e => by cases e)
                       have hB7 : ∀ k, v7.ownBlock = some k → k = wr.heap.size := fun k e => by
                         rcases hat7 with h | h
                         · rw [h] at e; cases e
                         · rw [h] at e; injection e with e; omega
                       have hsw7 := hb7.size)
                    | (at_builtin; refine wpList_append_q _ rfl (.tmp 75) (.tmp 77) _ rfl w1.heap.size 3 i0 (.int .i64 0) 1 8 Tryd.underlying57 ei ez ez1 ez2 rfl (by decide) v7 (0 + (p + 1)) ([] ++ (acc.take (p + 1)).map (Value.int .i64)) rfl (hown7.alloc _) _ 1 1 [.int .i64 (t.dst)] rfl rfl (fun _ => ⟨_, rfl, fun j u hj => by rw [addr_add, Nat.zero_add, World.cell?_alloc_at _ _ _ _ rfl]; simpa using hj⟩) (fun u hu => by simp at hu; subst hu; rfl) (by unfold maxLen; omega) (by omega) (by simp; omega) ?_
                       intro v8 w8 hown8 hg8 hat8
                       have hs8 := hg8.size
                       have hb8 : Below wr.heap.size wr w8 := (hb7.alloc hb7.size _).grown hg8 (by simp at hs8 ⊢; omega) (fun k e => by rw [hB7 k e]; exact Nat.le_refl _)
                       have hsw8 := hb8.size
                       have hown8a := hownr.below hb8)
                    | (at_builtin; refine wpList_append_q _ rfl (.tmp 79) (.tmp 82) _ rfl w1.heap.size 3 i0 (.int .i64 0) 1 8 Tryd.underlying57 ei ez ez1 ez2 rfl (by decide) v8 (0 + (p + 1) + 1) ([] ++ (acc.take (p + 1)).map (Value.int .i64) ++ [.int .i64 (t.dst)]) rfl hown8 _ _ _ ((acc.drop (p + 1)).map (Value.int .i64)) rfl (by rw [List.length_map, List.length_drop]; omega) (fun h => ⟨⟨bo, oo + (p + 1), none⟩, by have hne : ¬ co = p + 1 := (by omega); simp [hne, addr_add], read_dropI hown8a⟩) (one_ints _) (by unfold maxLen; omega) (by omega) (by omega) ?_
                       intro v9 w9 hown9 hg9 hat9))
                  have hb9 : Below wr.heap.size wr w9 := hb8.grown hg9 (by have := hg9.size; omega) (fun k e => by
                    rcases hat8 with h | h
                    · rw [h] at e; rw [hB7 k e]; exact Nat.le_refl _
                    · rw [h] at e; injection e with e; simp at e; omega)
                  have hby9 := hby.trans (hb9.mono hby.size)
                  have hl9 : (acc.take (p + 1) ++ (t.dst) :: acc.drop (p + 1)).length = acc.length + 1 := by simp <;> omega
                  have ho9 : Own w9 w1.heap.size 3 1 v9 (acc.take (p + 1) ++ (t.dst) :: acc.drop (p + 1)).length ((acc.take (p + 1) ++ (t.dst) :: acc.drop (p + 1)).map (Value.int .i64)) := hown9.cast (by rw [hl9]; omega) (by simp)
                  have hl2 : (acc.take (p + 1) ++ (t.dst) :: acc.drop (p + 1)).length ≤ k + 1 := by omega
                  go_roundw
                  case rel => exact ⟨k + 1, _, by omega, by go_num, hby9, ho9, hl2, HP.out⟩
                  case measure => simp [intOf]; omega
          · have HN := Lib.hid (HKEEP.out (by rw [HET.out, decide_eq_true hq]; simpa using hi))
            have hib : (t.src == id) = false := by rw [beq_eq_false_iff_ne]; exact hi
            clear HKEEP HPUT0 HET hq hi
            go_wp2_with fail
            go_roundw
            case rel => exact ⟨k + 1, acc, by omega, by go_num, hbx, hown, by omega, HN⟩
            case measure => simp [intOf]; omega
        · have HN := Lib.hid (HKEEP.out (by rw [HET.out, decide_eq_false hq]; rfl))
          rw [decide_eq_false hq] at hbb
          have hbc : ¬ t.bond.toList = bond.toList := by rw [bytes_eq]; exact hq
          clear HKEEP HPUT0 HET hq
          go_wp2_with fail
          go_roundw
          case rel => exact ⟨k + 1, acc, by omega, by go_num, hbx, hown, by omega, HN⟩
          case measure => simp [intOf]; omega
      · obtain rfl : k = g.ties.length := by omega
        have HE : Hid (endsS g id bond false = acc) := by
          obtain ⟨_, h2, h3⟩ := HQ.out
          rw [List.take_length] at h3
          exact (sortI_of h2 h3).symm
        have hsl := hown.ints HQ.out.1
        go_wp2_with fail
        go_ret
        exact ⟨_, rfl, by rw [HE.out]; exact hsl, hBr⟩
  | true =>
    go_enter Tryd.func20, Tryd.ntmps20
    go_wp2_with fail
    generalize w.alloc (.cells #[.slice An g.nodes.length cn, .slice At g.ties.length ct] 47) = w1 at *
    have X1 := Lib.hid x1
    clear x0
    go_loopw [9, 10] (fun ov i wr => ∃ (k : Nat) (acc : List Int), k ≤ g.ties.length ∧ i = .int .i64 k ∧ Below w1.heap.size w1 wr ∧ Own wr w1.heap.size 3 1 ov acc.length (acc.map (Value.int .i64)) ∧ acc.length ≤ k ∧ Hid (EndsQ g id bond true k acc)) (fun _ i _ => g.ties.length - (intOf i).toNat)
    case atStart => exact ⟨0, [], Nat.zero_le _, rfl, Below.refl _ _, Own.nil _ _ _ _, Nat.le_refl _, ⟨by simp, List.Pairwise.nil, by simp [endsL]⟩⟩
    case round =>
      clear x1
      -- true: back; t.src: the number; t.dst: the number that is asked
      obtain ⟨k, acc, hk, rfl, hbr, hown, hacc, HQ⟩ := hrel
      obtain ⟨Ao, co, rfl, hoc, hom⟩ := hown.form
      have x1 := cell_below hbr X1.out
      have hBr := hb0.trans (hbr.mono hb0.size)
      by_cases hlt : k < g.ties.length
      · obtain ⟨t, ht⟩ : ∃ d, g.ties[k]? = some d := ⟨_, List.getElem?_eq_getElem hlt⟩
        obtain ⟨gb, o, rfl, hok, q0, q1, q2⟩ := tie_at (HG.out.below hbr).2 ht
        have hlt' : (k : Int) < (g.ties.length : Int) := by omega
        have hk120 : (k : Int) ≤ 1000 := by omega
        have hacc' : (acc.length : Int) ≤ 1000 := by omega
        have ha1 : Below wr.heap.size wr (wr.alloc (.cells #[.string t.bond, .int .i64 t.src, .int .i64 t.dst] 102)) := (Below.refl _ _).alloc (Nat.le_refl _) _
        obtain ⟨z0, z1, z2⟩ := cell_box3 wr (.string t.bond) (.int .i64 t.src) (.int .i64 t.dst) 102
        have hbx := hbr.trans (ha1.mono hbr.size)
        have hown := hown.below ha1
        have HET : Hid (endT true bond id t = (decide (t.bond = bond) && (t.dst == id))) := rfl
        have HKEEP : Hid (endT true bond id t = false → EndsQ g id bond true (k + 1) acc) := HQ.out.keep ht
        have HPUT0 : Hid (endT true bond id t = true → ∀ p, p ≤ acc.length → (∀ i d, p ≤ i → acc[i]? = some d → t.src < d) → (p = 0 ∨ ∃ q, acc[p - 1]? = some q ∧ q ≤ t.src) → EndsQ g id bond true (k + 1) (acc.take p ++ (t.src) :: acc.drop p)) := fun h p hp hA hB => HQ.out.put ht hok h hp hA hB
        have hbb : (t.bond.toList == bond.toList) = decide (t.bond = bond) := bytes_beq t.bond bond
        clear ht hok
        go_upto_region 6 with fail
        generalize wr.alloc (.cells #[.string t.bond, .int .i64 t.src, .int .i64 t.dst] 102) = w3 at *
        clear q0 q1 q2 x1
        by_cases hq : t.bond = bond
        · rw [decide_eq_true hq] at hbb
          have hbc : t.bond.toList = bond.toList := by rw [hq]
          by_cases hi : t.dst = id
          · have HPUT := Lib.hid (HPUT0.out (by rw [HET.out, decide_eq_true hq, hi]; simp))
            have hib : (t.dst == id) = true := by rw [beq_iff_eq]; exact hi
            clear HKEEP HPUT0 HET hq hi
            -- true: back; t.src: the number
            go_wp2_with fail
            go_loopw [13] (fun tv wx => ∃ (z : Int) (p : Nat), p ≤ acc.length ∧ z = p ∧ tv = .int .i64 z ∧ Below w1.heap.size w1 wx ∧ Below w3.heap.size w3 wx ∧ Hid (∀ i d, p ≤ i → acc[i]? = some d → t.src < d)) (fun tv _ => (intOf tv).toNat)
            case atStart => exact ⟨acc.length, acc.length, Nat.le_refl _, rfl, rfl, hbx, Below.refl _ _, fun i d hi hd => by rw [List.getElem?_eq_none hi] at hd; cases hd⟩
            case round =>
              obtain ⟨z, p, hp, hzp, rfl, hby, hb3, HA⟩ := hrel
              have hownr := hown.below hb3
              cases p with
              | zero =>
                obtain rfl : z = 0 := by omega
                clear hzp
                have hz0 : ¬ ((0 : Int) < 0) := by omega
                have HP : Hid (EndsQ g id bond true (k + 1) (acc.take 0 ++ (t.src) :: acc.drop 0)) := HPUT.out 0 hp HA.out (.inl rfl)
                rcases hown.2 with ⟨hv0, h0⟩ | ⟨bo, oo, cap, cur, hv0, _⟩
                · injection hv0 with hA _ hc'
                  subst hA; subst hc'
                  -- 0: place; (fun h => absurd h (by omega)): the head is read; (fun h => (Nat.lt_irrefl _ h).elim): the tail is read; t.src: the number
                  have hws := hby.size
                  go_wp2_with (first
                    | (at_builtin; refine wpList_append_q _ rfl (.tmp 70) (.tmp 73) _ rfl w1.heap.size 3 i0 (.int .i64 0) 1 8 Tryd.underlying57 ei ez ez1 ez2 rfl (by decide) (.slice none 0 0) 0 [] rfl (Own.nil _ _ _ _) _ (0) _ ((acc.take (0)).map (Value.int .i64)) rfl (by rw [List.length_map, List.length_take]; omega) (fun h => absurd h (by omega)) (one_ints _) (by unfold maxLen; omega) (by omega) (by omega) ?_
                       intro v7 w7 hown7 hg7 hat7
                       have hs7 := hg7.size
                       have hb7 : Below wr.heap.size wr w7 := (Below.refl _ _).grown hg7 (by omega) (fun k e => by cases e)
                       have hB7 : ∀ k, v7.ownBlock = some k → k = wr.heap.size := fun k e => by
                         rcases hat7 with h | h
                         · rw [h] at e; cases e
                         · rw [h] at e; injection e with e; omega
                       have hsw7 := hb7.size)
                    | (at_builtin; refine wpList_append_q _ rfl (.tmp 75) (.tmp 77) _ rfl w1.heap.size 3 i0 (.int .i64 0) 1 8 Tryd.underlying57 ei ez ez1 ez2 rfl (by decide) v7 (0 + (0)) ([] ++ (acc.take (0)).map (Value.int .i64)) rfl (hown7.alloc _) _ 1 1 [.int .i64 (t.src)] rfl rfl (fun _ => ⟨_, rfl, fun j u hj => by rw [addr_add, Nat.zero_add, World.cell?_alloc_at _ _ _ _ rfl]; simpa using hj⟩) (fun u hu => by simp at hu; subst hu; rfl) (by unfold maxLen; omega) (by omega) (by simp; omega) ?_
                       intro v8 w8 hown8 hg8 hat8
                       have hs8 := hg8.size
                       have hb8 : Below wr.heap.size wr w8 := (hb7.alloc hb7.size _).grown hg8 (by simp at hs8 ⊢; omega) (fun k e => by rw [hB7 k e]; exact Nat.le_refl _)
                       have hsw8 := hb8.size
                       have hown8a := hownr.below hb8)
                    | (at_builtin; refine wpList_append_q _ rfl (.tmp 79) (.tmp 82) _ rfl w1.heap.size 3 i0 (.int .i64 0) 1 8 Tryd.underlying57 ei ez ez1 ez2 rfl (by decide) v8 (0 + (0) + 1) ([] ++ (acc.take (0)).map (Value.int .i64) ++ [.int .i64 (t.src)]) rfl hown8 _ _ _ ((acc.drop (0)).map (Value.int .i64)) rfl (by rw [List.length_map, List.length_drop]; omega) (fun h => (Nat.lt_irrefl _ h).elim) (one_ints _) (by unfold maxLen; omega) (by omega) (by omega) ?_
                       intro v9 w9 hown9 hg9 hat9))
                  have hb9 : Below wr.heap.size wr w9 := hb8.grown hg9 (by have := hg9.size; omega) (fun k e => by
                    rcases hat8 with h | h
                    · rw [h] at e; rw [hB7 k e]; exact Nat.le_refl _
                    · rw [h] at e; injection e with e; simp at e; omega)
                  have hby9 := hby.trans (hb9.mono hby.size)
                  have hl9 : (acc.take (0) ++ (t.src) :: acc.drop (0)).length = acc.length + 1 := by simp <;> omega
                  have ho9 : Own w9 w1.heap.size 3 1 v9 (acc.take (0) ++ (t.src) :: acc.drop (0)).length ((acc.take (0) ++ (t.src) :: acc.drop (0)).map (Value.int .i64)) := hown9.cast (by rw [hl9]; omega) (by simp)
                  have hl2 : (acc.take (0) ++ (t.src) :: acc.drop (0)).length ≤ k + 1 := by omega
                  go_roundw
                  case rel => exact ⟨k + 1, _, by omega, by go_num, hby9, ho9, hl2, HP.out⟩
                  case measure => simp [intOf]; omega
                · injection hv0 with hA _ hc'
                  subst hA
                  clear hc'
                  -- 0: place; (fun h => absurd h (by omega)): the head is read; (fun h => ⟨⟨bo, oo + 0, none⟩, by have hne : ¬ co = 0 := (by omega); simp [hne, addr_add], read_dropI hown8a⟩): the tail is read; t.src: the number
                  have hws := hby.size
                  go_wp2_with (first
                    | (at_builtin; refine wpList_append_q _ rfl (.tmp 70) (.tmp 73) _ rfl w1.heap.size 3 i0 (.int .i64 0) 1 8 Tryd.underlying57 ei ez ez1 ez2 rfl (by decide) (.slice none 0 0) 0 [] rfl (Own.nil _ _ _ _) _ (0) _ ((acc.take (0)).map (Value.int .i64)) rfl (by rw [List.length_map, List.length_take]; omega) (fun h => absurd h (by omega)) (one_ints _) (by unfold maxLen; omega) (by omega) (by omega) ?_
                       intro v7 w7 hown7 hg7 hat7
                       have hs7 := hg7.size
                       have hb7 : Below wr.heap.size wr w7 := (Below.refl _ _).grown hg7 (by omega) (fun k e => by cases e)
                       have hB7 : ∀ k, v7.ownBlock = some k → k = wr.heap.size := fun k e => by
                         rcases hat7 with h | h
                         · rw [h] at e; cases e
                         · rw [h] at e; injection e with e; omega
                       have hsw7 := hb7.size)
                    | (at_builtin; refine wpList_append_q _ rfl (.tmp 75) (.tmp 77) _ rfl w1.heap.size 3 i0 (.int .i64 0) 1 8 Tryd.underlying57 ei ez ez1 ez2 rfl (by decide) v7 (0 + (0)) ([] ++ (acc.take (0)).map (Value.int .i64)) rfl (hown7.alloc _) _ 1 1 [.int .i64 (t.src)] rfl rfl (fun _ => ⟨_, rfl, fun j u hj => by rw [addr_add, Nat.zero_add, World.cell?_alloc_at _ _ _ _ rfl]; simpa using hj⟩) (fun u hu => by simp at hu; subst hu; rfl) (by unfold maxLen; omega) (by omega) (by simp; omega) ?_
                       intro v8 w8 hown8 hg8 hat8
                       have hs8 := hg8.size
                       have hb8 : Below wr.heap.size wr w8 := (hb7.alloc hb7.size _).grown hg8 (by simp at hs8 ⊢; omega) (fun k e => by rw [hB7 k e]; exact Nat.le_refl _)
                       have hsw8 := hb8.size
                       have hown8a := hownr.below hb8)
                    | (at_builtin; refine wpList_append_q _ rfl (.tmp 79) (.tmp 82) _ rfl w1.heap.size 3 i0 (.int .i64 0) 1 8 Tryd.underlying57 ei ez ez1 ez2 rfl (by decide) v8 (0 + (0) + 1) ([] ++ (acc.take (0)).map (Value.int .i64) ++ [.int .i64 (t.src)]) rfl hown8 _ _ _ ((acc.drop (0)).map (Value.int .i64)) rfl (by rw [List.length_map, List.length_drop]; omega) (fun h => ⟨⟨bo, oo + 0, none⟩, by have hne : ¬ co = 0 := (by omega); simp [hne, addr_add], read_dropI hown8a⟩) (one_ints _) (by unfold maxLen; omega) (by omega) (by omega) ?_
                       intro v9 w9 hown9 hg9 hat9))
                  have hb9 : Below wr.heap.size wr w9 := hb8.grown hg9 (by have := hg9.size; omega) (fun k e => by
                    rcases hat8 with h | h
                    · rw [h] at e; rw [hB7 k e]; exact Nat.le_refl _
                    · rw [h] at e; injection e with e; simp at e; omega)
                  have hby9 := hby.trans (hb9.mono hby.size)
                  have hl9 : (acc.take (0) ++ (t.src) :: acc.drop (0)).length = acc.length + 1 := by simp <;> omega
                  have ho9 : Own w9 w1.heap.size 3 1 v9 (acc.take (0) ++ (t.src) :: acc.drop (0)).length ((acc.take (0) ++ (t.src) :: acc.drop (0)).map (Value.int .i64)) := hown9.cast (by rw [hl9]; omega) (by simp)
                  have hl2 : (acc.take (0) ++ (t.src) :: acc.drop (0)).length ≤ k + 1 := by omega
                  go_roundw
                  case rel => exact ⟨k + 1, _, by omega, by go_num, hby9, ho9, hl2, HP.out⟩
                  case measure => simp [intOf]; omega
              | succ p =>
                obtain rfl : z = (p : Int) + 1 := by omega
                clear hzp
                obtain ⟨q, hq⟩ : ∃ d, acc[p]? = some d := ⟨_, List.getElem?_eq_getElem (by omega)⟩
                obtain ⟨bo, oo, hAo, _, r0⟩ := int_at (hownr.ints HQ.out.1) hq
                subst hAo
                have hpl : (p : Int) < (acc.length : Int) := by omega
                have hp0 : (0 : Int) < (p : Int) + 1 := by omega
                have hpw : IntKind.i64.wrap ((p : Int) + 1 - 1) = (p : Int) := by rw [IntWalk.i64_in _ (by omega)]; omega
                by_cases hc : t.src < q
                · have HN : Hid (∀ i d, p ≤ i → acc[i]? = some d → t.src < d) := fun i d hi hd => by
                    by_cases hip : i = p
                    · subst hip; rw [hq] at hd; injection hd with hd; subst hd; exact hc
                    · exact HA.out i d (by omega) hd
                  clear hq
                  go_wp2_with fail
                  go_roundw
                  case rel => exact ⟨p, p, by omega, rfl, by go_num, hby, hb3, HN⟩
                  case measure => simp [intOf]
                · have hc' : q ≤ t.src := by omega
                  have HP : Hid (EndsQ g id bond true (k + 1) (acc.take (p + 1) ++ (t.src) :: acc.drop (p + 1))) := HPUT.out (p + 1) hp HA.out (.inr ⟨q, by simpa using hq, hc'⟩)
                  have hpo : (p : Int) + 1 ≤ (co : Int) := by omega
                  have hpl' : (p : Int) + 1 ≤ (acc.length : Int) := by omega
                  clear hc hq
                  -- p + 1: place; (fun _ => ⟨_, rfl, read_takeI hownr⟩): the head is read; (fun h => ⟨⟨bo, oo + (p + 1), none⟩, by have hne : ¬ co = p + 1 := (by omega); simp [hne, addr_add], read_dropI hown8a⟩): the tail is read; t.src: the number
                  have hws := hby.size
                  go_wp2_with (first
                    | (at_builtin; refine wpList_append_q _ rfl (.tmp 70) (.tmp 73) _ rfl w1.heap.size 3 i0 (.int .i64 0) 1 8 Tryd.underlying57 ei ez ez1 ez2 rfl (by decide) (.slice none 0 0) 0 [] rfl (Own.nil _ _ _ _) _ (p + 1) _ ((acc.take (p + 1)).map (Value.int .i64)) rfl (by rw [List.length_map, List.length_take]; omega) (fun _ => ⟨_, rfl, read_takeI hownr⟩) (one_ints _) (by unfold maxLen; omega) (by omega) (by omega) ?_
                       intro v7 w7 hown7 hg7 hat7
                       have hs7 := hg7.size
                       have hb7 : Below wr.heap.size wr w7 := (Below.refl _ _).grown hg7 (by omega) (fun k e => by cases e)
                       have hB7 : ∀ k, v7.ownBlock = some k → k = wr.heap.size := fun k e => by
                         rcases hat7 with h | h
                         · rw [h] at e; cases e
                         · rw [h] at e; injection e with e; omega
                       have hsw7 := hb7.size)
                    | (at_builtin; refine wpList_append_q _ rfl (.tmp 75) (.tmp 77) _ rfl w1.heap.size 3 i0 (.int .i64 0) 1 8 Tryd.underlying57 ei ez ez1 ez2 rfl (by decide) v7 (0 + (p + 1)) ([] ++ (acc.take (p + 1)).map (Value.int .i64)) rfl (hown7.alloc _) _ 1 1 [.int .i64 (t.src)] rfl rfl (fun _ => ⟨_, rfl, fun j u hj => by rw [addr_add, Nat.zero_add, World.cell?_alloc_at _ _ _ _ rfl]; simpa using hj⟩) (fun u hu => by simp at hu; subst hu; rfl) (by unfold maxLen; omega) (by omega) (by simp; omega) ?_
                       intro v8 w8 hown8 hg8 hat8
                       have hs8 := hg8.size
                       have hb8 : Below wr.heap.size wr w8 := (hb7.alloc hb7.size _).grown hg8 (by simp at hs8 ⊢; omega) (fun k e => by rw [hB7 k e]; exact Nat.le_refl _)
                       have hsw8 := hb8.size
                       have hown8a := hownr.below hb8)
                    | (at_builtin; refine wpList_append_q _ rfl (.tmp 79) (.tmp 82) _ rfl w1.heap.size 3 i0 (.int .i64 0) 1 8 Tryd.underlying57 ei ez ez1 ez2 rfl (by decide) v8 (0 + (p + 1) + 1) ([] ++ (acc.take (p + 1)).map (Value.int .i64) ++ [.int .i64 (t.src)]) rfl hown8 _ _ _ ((acc.drop (p + 1)).map (Value.int .i64)) rfl (by rw [List.length_map, List.length_drop]; omega) (fun h => ⟨⟨bo, oo + (p + 1), none⟩, by have hne : ¬ co = p + 1 := (by omega); simp [hne, addr_add], read_dropI hown8a⟩) (one_ints _) (by unfold maxLen; omega) (by omega) (by omega) ?_
                       intro v9 w9 hown9 hg9 hat9))
                  have hb9 : Below wr.heap.size wr w9 := hb8.grown hg9 (by have := hg9.size; omega) (fun k e => by
                    rcases hat8 with h | h
                    · rw [h] at e; rw [hB7 k e]; exact Nat.le_refl _
                    · rw [h] at e; injection e with e; simp at e; omega)
                  have hby9 := hby.trans (hb9.mono hby.size)
                  have hl9 : (acc.take (p + 1) ++ (t.src) :: acc.drop (p + 1)).length = acc.length + 1 := by simp <;> omega
                  have ho9 : Own w9 w1.heap.size 3 1 v9 (acc.take (p + 1) ++ (t.src) :: acc.drop (p + 1)).length ((acc.take (p + 1) ++ (t.src) :: acc.drop (p + 1)).map (Value.int .i64)) := hown9.cast (by rw [hl9]; omega) (by simp)
                  have hl2 : (acc.take (p + 1) ++ (t.src) :: acc.drop (p + 1)).length ≤ k + 1 := by omega
                  go_roundw
                  case rel => exact ⟨k + 1, _, by omega, by go_num, hby9, ho9, hl2, HP.out⟩
                  case measure => simp [intOf]; omega
          · have HN := Lib.hid (HKEEP.out (by rw [HET.out, decide_eq_true hq]; simpa using hi))
            have hib : (t.dst == id) = false := by rw [beq_eq_false_iff_ne]; exact hi
            clear HKEEP HPUT0 HET hq hi
            go_wp2_with fail
            go_roundw
            case rel => exact ⟨k + 1, acc, by omega, by go_num, hbx, hown, by omega, HN⟩
            case measure => simp [intOf]; omega
        · have HN := Lib.hid (HKEEP.out (by rw [HET.out, decide_eq_false hq]; rfl))
          rw [decide_eq_false hq] at hbb
          have hbc : ¬ t.bond.toList = bond.toList := by rw [bytes_eq]; exact hq
          clear HKEEP HPUT0 HET hq
          go_wp2_with fail
          go_roundw
          case rel => exact ⟨k + 1, acc, by omega, by go_num, hbx, hown, by omega, HN⟩
          case measure => simp [intOf]; omega
      · obtain rfl : k = g.ties.length := by omega
        have HE : Hid (endsS g id bond true = acc) := by
          obtain ⟨_, h2, h3⟩ := HQ.out
          rw [List.take_length] at h3
          exact (sortI_of h2 h3).symm
        have hsl := hown.ints HQ.out.1
        go_wp2_with fail
        go_ret
        exact ⟨_, rfl, by rw [HE.out]; exact hsl, hBr⟩
end Go.Proofs.YthefofclbepkoaaDoor
