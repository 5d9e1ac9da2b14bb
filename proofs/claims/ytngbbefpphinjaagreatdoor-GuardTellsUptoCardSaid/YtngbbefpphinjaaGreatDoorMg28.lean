/- Parts: GtE, EndB, As, Told, GNext. -/
import Derived.Test.YtngbbefpphinjaaGreatDoorMg19
import Derived.Deep.DeepCutAuto
import Derived.Test.YtngbbefpphinjaaGreatDoorMg14
import Derived.Test.YtngbbefpphinjaaGreatDoorMg01
import Derived.Test.YtngbbefpphinjaaGreatDoorRows
import Derived.WalkKit
import Derived.LaidEql
import Derived.Stop.Asserts
import Derived.RowKitTokens
import Derived.Test.YtngbbefpphinjaaGreatDoorMg05
/- Contract of the references: kinref1.Ends: ends of ties of a bond at a node, rising. No condition. -/
namespace Go.Proofs.YtngbbefpphinjaaGreatDoor
open Go Go.RowKit
def EndsQ (g : Grf) (id : Int) (bond : ByteArray) (back : Bool) (k : Nat) (acc : List Int) : Prop := (∀ x ∈ acc, I64 x) /\ acc.Pairwise (· <= ·) /\ acc.Perm (endsL (g.ties.take k) id bond back)
theorem EndsQ.keep {g : Grf} {id : Int} {bond : ByteArray} {back : Bool} {k : Nat} {acc : List Int} {t : Tie} (h : EndsQ g id bond back k acc) (ht : g.ties[k]? = some t) (hq : endT back bond id t = false) : EndsQ g id bond back (k + 1) acc := by
 obtain ⟨h1, h2, h3⟩ := h
 refine ⟨h1, h2, ?_⟩
 rw [endsL_take ht, hq]
 simpa using h3
theorem EndsQ.put {g : Grf} {id : Int} {bond : ByteArray} {back : Bool} {k p : Nat} {acc : List Int} {t : Tie} (h : EndsQ g id bond back k acc) (ht : g.ties[k]? = some t) (hok : t.ok) (hq : endT back bond id t = true) (hp : p <= acc.length)
 (hA : ∀ i d, p <= i -> acc[i]? = some d -> endX back t < d) (hB : p = 0 \/ ∃ q, acc[p - 1]? = some q /\ q <= endX back t) : EndsQ g id bond back (k + 1) (acc.take p ++ endX back t :: acc.drop p) := by
 obtain ⟨h1, h2, h3⟩ := h
 refine ⟨fun x hx => ?_, ins_rise h2 hp hA hB, ?_⟩
 ·have := (ins_perm acc (endX back t) p).mem_iff.1 hx
  rcases List.mem_cons.1 this with rfl | hm
  ·exact endX_i64 hok back
  exact h1 x hm
 rw [endsL_take ht, hq]
 refine (ins_perm acc (endX back t) p).trans ?_
 simp only [if_true]
 exact (List.Perm.cons _ h3).trans (List.perm_append_singleton _ _).symm
set_option maxRecDepth 100000 in
set_option maxHeartbeats 8000000 in
theorem rends_any (g : Grf) (id : Int) (bond : ByteArray) (back : Bool) (vn vt : Value) (w : World) (hG : GrfR w vn vt g) (hl : g.ties.length <= 900) :
 Calls Tryz.prog 63 #[.agg #[vn, vt], .int .i64 id, .string bond, .bool back] w fun e w' => ∃ u, e = .returned u /\ Sl intL w' u (endsS g id bond back) /\ Below w.heap.size w w' := by
 obtain ⟨i0, ei, ez, ez1, ez2⟩ := info_parts eint_info
 obtain ⟨An, cn, rfl, _, _⟩ := hG.1.form
 obtain ⟨At, ct, rfl, _, _⟩ := hG.2.form
 have hb0 : Below w.heap.size w (w.alloc (.cells #[.slice An g.nodes.length cn, .slice At g.ties.length ct] 25)) := (Below.refl _ _).alloc (Nat.le_refl _) _
 obtain ⟨x0, x1⟩ := cell_box2 w (.slice An g.nodes.length cn) (.slice At g.ties.length ct) 25
 have HG := Lib.hid (hG.below hb0)
 clear hG
 cases back with
 | false =>
  go_enter Tryz.func63, Tryz.ntmps63
  go_wp2_with fail
  generalize w.alloc (.cells #[.slice An g.nodes.length cn, .slice At g.ties.length ct] 25) = w1 at *
  have X1 := Lib.hid x1
  clear x0
  go_loopw [9, 10] (fun ov i wr => ∃ (k : Nat) (acc : List Int), k <= g.ties.length /\ i = .int .i64 k /\ Below w1.heap.size w1 wr /\ Own wr w1.heap.size 3 1 ov acc.length (acc.map (Value.int .i64)) /\ acc.length <= k /\ Hid (EndsQ g id bond false k acc)) (fun _ i _ => g.ties.length - (intOf i).toNat)
  case atStart => exact ⟨0, [], Nat.zero_le _, rfl, Below.refl _ _, Own.nil _ _ _ _, Nat.le_refl _, ⟨by simp, List.Pairwise.nil, by simp [endsL]⟩⟩
  case round =>
   clear x1
   obtain ⟨k, acc, hk, rfl, hbr, hown, hacc, HQ⟩ := hrel
   obtain ⟨Ao, co, rfl, hoc, hom⟩ := hown.form
   have x1 := cell_below hbr X1.out
   have hBr := hb0.trans (hbr.mono hb0.size)
   by_cases hlt : k < g.ties.length
   ·obtain ⟨t, ht⟩ : ∃ d, g.ties[k]? = some d := ⟨_, List.getElem?_eq_getElem hlt⟩
    obtain ⟨gb, o, rfl, hok, q0, q1, q2⟩ := tie_at (HG.out.below hbr).2 ht
    have hlt' : (k : Int) < (g.ties.length : Int) := by omega
    have hk120 : (k : Int) <= 1000 := by omega
    have hacc' : (acc.length : Int) <= 1000 := by omega
    have ha1 : Below wr.heap.size wr (wr.alloc (.cells #[.string t.bond, .int .i64 t.src, .int .i64 t.dst] 35)) := (Below.refl _ _).alloc (Nat.le_refl _) _
    obtain ⟨z0, z1, z2⟩ := cell_box3 wr (.string t.bond) (.int .i64 t.src) (.int .i64 t.dst) 35
    have hbx := hbr.trans (ha1.mono hbr.size)
    have hown := hown.below ha1
    have HET : Hid (endT false bond id t = (decide (t.bond = bond) && (t.src == id))) := rfl
    have HKEEP : Hid (endT false bond id t = false -> EndsQ g id bond false (k + 1) acc) := HQ.out.keep ht
    have HPUT0 : Hid (endT false bond id t = true -> ∀ p, p <= acc.length -> (∀ i d, p <= i -> acc[i]? = some d -> t.dst < d) -> (p = 0 \/ ∃ q, acc[p - 1]? = some q /\ q <= t.dst) -> EndsQ g id bond false (k + 1) (acc.take p ++ (t.dst) :: acc.drop p)) := fun h p hp hA hB => HQ.out.put ht hok h hp hA hB
    have hbb : (t.bond.toList == bond.toList) = decide (t.bond = bond) := bytes_beq t.bond bond
    clear ht hok
    go_upto_region 6 with fail
    generalize wr.alloc (.cells #[.string t.bond, .int .i64 t.src, .int .i64 t.dst] 35) = w3 at *
    clear q0 q1 q2 x1
    by_cases hq : t.bond = bond
    ·rw [decide_eq_true hq] at hbb
     have hbc : t.bond.toList = bond.toList := by rw [hq]
     by_cases hi : t.src = id
     ·have HPUT := Lib.hid (HPUT0.out (by rw [HET.out, decide_eq_true hq, hi]; simp))
      have hib : (t.src == id) = true := by rw [beq_iff_eq]; exact hi
      clear HKEEP HPUT0 HET hq hi
      go_wp2_with fail
      go_loopw [13] (fun tv wx => ∃ (z : Int) (p : Nat), p <= acc.length /\ z = p /\ tv = .int .i64 z /\ Below w1.heap.size w1 wx /\ Below w3.heap.size w3 wx /\ Hid (∀ i d, p <= i -> acc[i]? = some d -> t.dst < d)) (fun tv _ => (intOf tv).toNat)
      case atStart => exact ⟨acc.length, acc.length, Nat.le_refl _, rfl, rfl, hbx, Below.refl _ _, fun i d hi hd => by rw [List.getElem?_eq_none hi] at hd; cases hd⟩
      obtain ⟨z, p, hp, hzp, rfl, hby, hb3, HA⟩ := hrel
      have hownr := hown.below hb3
      cases p with
      | zero =>
       obtain rfl : z = 0 := by omega
       clear hzp
       have hz0 : ¬ ((0 : Int) < 0) := by omega
       have HP : Hid (EndsQ g id bond false (k + 1) (acc.take 0 ++ (t.dst) :: acc.drop 0)) := HPUT.out 0 hp HA.out (.inl rfl)
       rcases hown.2 with ⟨hv0, h0⟩ | ⟨bo, oo, cap, cur, hv0, _⟩
       ·injection hv0 with hA _ hc'
        subst hA; subst hc'
        have hws := hby.size
        go_wp2_with (first
         | (at_builtin; refine wpList_append_q _ rfl (.tmp 70) (.tmp 73) _ rfl w1.heap.size 3 i0 (.int .i64 0) 1 8 Tryz.underlying71 ei ez ez1 ez2 rfl (by decide) (.slice none 0 0) 0 [] rfl (Own.nil _ _ _ _) _ (0) _ ((acc.take (0)).map (Value.int .i64)) rfl (by rw [List.length_map, List.length_take]; omega) (fun h => absurd h (by omega)) (one_ints _) (by unfold maxLen; omega) (by omega) (by omega) ?_
            intro v7 w7 hown7 hg7 hat7
            have hs7 := hg7.size
            have hb7 : Below wr.heap.size wr w7 := (Below.refl _ _).grown hg7 (by omega) (fun k e => by cases e)
            have hB7 : ∀ k, v7.ownBlock = some k -> k = wr.heap.size := fun k e => by
              rcases hat7 with h | h
              · rw [h] at e; cases e
              rw [h] at e; injection e with e; omega
            have hsw7 := hb7.size)
         | (at_builtin; refine wpList_append_q _ rfl (.tmp 75) (.tmp 77) _ rfl w1.heap.size 3 i0 (.int .i64 0) 1 8 Tryz.underlying71 ei ez ez1 ez2 rfl (by decide) v7 (0 + (0)) ([] ++ (acc.take (0)).map (Value.int .i64)) rfl (hown7.alloc _) _ 1 1 [.int .i64 (t.dst)] rfl rfl (fun _ => ⟨_, rfl, fun j u hj => by rw [addr_add, Nat.zero_add, World.cell?_alloc_at _ _ _ _ rfl]; simpa using hj⟩) (fun u hu => by simp at hu; subst hu; rfl) (by unfold maxLen; omega) (by omega) (by simp; omega) ?_
            intro v8 w8 hown8 hg8 hat8
            have hs8 := hg8.size
            have hb8 : Below wr.heap.size wr w8 := (hb7.alloc hb7.size _).grown hg8 (by simp at hs8 ⊢; omega) (fun k e => by rw [hB7 k e]; exact Nat.le_refl _)
            have hsw8 := hb8.size
            have hown8a := hownr.below hb8)
         | (at_builtin; refine wpList_append_q _ rfl (.tmp 79) (.tmp 82) _ rfl w1.heap.size 3 i0 (.int .i64 0) 1 8 Tryz.underlying71 ei ez ez1 ez2 rfl (by decide) v8 (0 + (0) + 1) ([] ++ (acc.take (0)).map (Value.int .i64) ++ [.int .i64 (t.dst)]) rfl hown8 _ _ _ ((acc.drop (0)).map (Value.int .i64)) rfl (by rw [List.length_map, List.length_drop]; omega) (fun h => (Nat.lt_irrefl _ h).elim) (one_ints _) (by unfold maxLen; omega) (by omega) (by omega) ?_
            intro v9 w9 hown9 hg9 hat9))
        have hb9 : Below wr.heap.size wr w9 := hb8.grown hg9 (by have := hg9.size; omega) (fun k e => by
         rcases hat8 with h | h
         ·rw [h] at e; rw [hB7 k e]; exact Nat.le_refl _
         rw [h] at e; injection e with e; simp at e; omega)
        have hby9 := hby.trans (hb9.mono hby.size)
        have hl9 : (acc.take (0) ++ (t.dst) :: acc.drop (0)).length = acc.length + 1 := by simp <;> omega
        have ho9 : Own w9 w1.heap.size 3 1 v9 (acc.take (0) ++ (t.dst) :: acc.drop (0)).length ((acc.take (0) ++ (t.dst) :: acc.drop (0)).map (Value.int .i64)) := hown9.cast (by rw [hl9]; omega) (by simp)
        have hl2 : (acc.take (0) ++ (t.dst) :: acc.drop (0)).length <= k + 1 := by omega
        go_roundw
        case rel => exact ⟨k + 1, _, by omega, by go_num, hby9, ho9, hl2, HP.out⟩
        case measure => simp [intOf]; omega
       ·injection hv0 with hA _ hc'
        subst hA
        clear hc'
        have hws := hby.size
        go_wp2_with (first
         | (at_builtin; refine wpList_append_q _ rfl (.tmp 70) (.tmp 73) _ rfl w1.heap.size 3 i0 (.int .i64 0) 1 8 Tryz.underlying71 ei ez ez1 ez2 rfl (by decide) (.slice none 0 0) 0 [] rfl (Own.nil _ _ _ _) _ (0) _ ((acc.take (0)).map (Value.int .i64)) rfl (by rw [List.length_map, List.length_take]; omega) (fun h => absurd h (by omega)) (one_ints _) (by unfold maxLen; omega) (by omega) (by omega) ?_
            intro v7 w7 hown7 hg7 hat7
            have hs7 := hg7.size
            have hb7 : Below wr.heap.size wr w7 := (Below.refl _ _).grown hg7 (by omega) (fun k e => by cases e)
            have hB7 : ∀ k, v7.ownBlock = some k -> k = wr.heap.size := fun k e => by
              rcases hat7 with h | h
              · rw [h] at e; cases e
              rw [h] at e; injection e with e; omega
            have hsw7 := hb7.size)
         | (at_builtin; refine wpList_append_q _ rfl (.tmp 75) (.tmp 77) _ rfl w1.heap.size 3 i0 (.int .i64 0) 1 8 Tryz.underlying71 ei ez ez1 ez2 rfl (by decide) v7 (0 + (0)) ([] ++ (acc.take (0)).map (Value.int .i64)) rfl (hown7.alloc _) _ 1 1 [.int .i64 (t.dst)] rfl rfl (fun _ => ⟨_, rfl, fun j u hj => by rw [addr_add, Nat.zero_add, World.cell?_alloc_at _ _ _ _ rfl]; simpa using hj⟩) (fun u hu => by simp at hu; subst hu; rfl) (by unfold maxLen; omega) (by omega) (by simp; omega) ?_
            intro v8 w8 hown8 hg8 hat8
            have hs8 := hg8.size
            have hb8 : Below wr.heap.size wr w8 := (hb7.alloc hb7.size _).grown hg8 (by simp at hs8 ⊢; omega) (fun k e => by rw [hB7 k e]; exact Nat.le_refl _)
            have hsw8 := hb8.size
            have hown8a := hownr.below hb8)
         | (at_builtin; refine wpList_append_q _ rfl (.tmp 79) (.tmp 82) _ rfl w1.heap.size 3 i0 (.int .i64 0) 1 8 Tryz.underlying71 ei ez ez1 ez2 rfl (by decide) v8 (0 + (0) + 1) ([] ++ (acc.take (0)).map (Value.int .i64) ++ [.int .i64 (t.dst)]) rfl hown8 _ _ _ ((acc.drop (0)).map (Value.int .i64)) rfl (by rw [List.length_map, List.length_drop]; omega) (fun h => ⟨⟨bo, oo + 0, none⟩, by simp, read_dropI hown8a⟩) (one_ints _) (by unfold maxLen; omega) (by omega) (by omega) ?_
            intro v9 w9 hown9 hg9 hat9))
        have hb9 : Below wr.heap.size wr w9 := hb8.grown hg9 (by have := hg9.size; omega) (fun k e => by
         rcases hat8 with h | h
         ·rw [h] at e; rw [hB7 k e]; exact Nat.le_refl _
         rw [h] at e; injection e with e; simp at e; omega)
        have hby9 := hby.trans (hb9.mono hby.size)
        have hl9 : (acc.take (0) ++ (t.dst) :: acc.drop (0)).length = acc.length + 1 := by simp <;> omega
        have ho9 : Own w9 w1.heap.size 3 1 v9 (acc.take (0) ++ (t.dst) :: acc.drop (0)).length ((acc.take (0) ++ (t.dst) :: acc.drop (0)).map (Value.int .i64)) := hown9.cast (by rw [hl9]; omega) (by simp)
        have hl2 : (acc.take (0) ++ (t.dst) :: acc.drop (0)).length <= k + 1 := by omega
        go_roundw
        case rel => exact ⟨k + 1, _, by omega, by go_num, hby9, ho9, hl2, HP.out⟩
        case measure => simp [intOf]; omega
      | succ p =>
       obtain rfl : z = (p : Int) + 1 := by omega
       clear hzp
       obtain ⟨q, hq⟩ : ∃ d, acc[p]? = some d := ⟨_, List.getElem?_eq_getElem (by omega)⟩
       obtain ⟨bo, oo, hAo, _, r0⟩ := int_at (hownr.ints HQ.out.1) hq
       subst hAo
       have hpl : (p : Int) < (acc.length : Int) := by omega
       have hp0 : (0 : Int) < (p : Int) + 1 := by omega
       have hpw : IntKind.i64.wrap ((p : Int) + 1 - 1) = (p : Int) := by rw [IntWalk.i64_in _ (by omega)]; omega
       by_cases hc : t.dst < q
       ·have HN : Hid (∀ i d, p <= i -> acc[i]? = some d -> t.dst < d) := fun i d hi hd => by
         by_cases hip : i = p
         ·subst hip; rw [hq] at hd; injection hd with hd; subst hd; exact hc
         exact HA.out i d (by omega) hd
        clear hq
        go_wp2_with fail
        go_roundw
        case rel => exact ⟨p, p, by omega, rfl, by go_num, hby, hb3, HN⟩
        case measure => simp [intOf]
       have hc' : q <= t.dst := by omega
       have HP : Hid (EndsQ g id bond false (k + 1) (acc.take (p + 1) ++ (t.dst) :: acc.drop (p + 1))) := HPUT.out (p + 1) hp HA.out (.inr ⟨q, by simpa using hq, hc'⟩)
       have hpo : (p : Int) + 1 <= (co : Int) := by omega
       have hpl' : (p : Int) + 1 <= (acc.length : Int) := by omega
       clear hc hq
       have hws := hby.size
       go_wp2_with (first
        | (at_builtin; refine wpList_append_q _ rfl (.tmp 70) (.tmp 73) _ rfl w1.heap.size 3 i0 (.int .i64 0) 1 8 Tryz.underlying71 ei ez ez1 ez2 rfl (by decide) (.slice none 0 0) 0 [] rfl (Own.nil _ _ _ _) _ (p + 1) _ ((acc.take (p + 1)).map (Value.int .i64)) rfl (by rw [List.length_map, List.length_take]; omega) (fun _ => ⟨_, rfl, read_takeI hownr⟩) (one_ints _) (by unfold maxLen; omega) (by omega) (by omega) ?_
           intro v7 w7 hown7 hg7 hat7
           have hs7 := hg7.size
           have hb7 : Below wr.heap.size wr w7 := (Below.refl _ _).grown hg7 (by omega) (fun k e => by cases e)
           have hB7 : ∀ k, v7.ownBlock = some k -> k = wr.heap.size := fun k e => by
             rcases hat7 with h | h
             · rw [h] at e; cases e
             rw [h] at e; injection e with e; omega
           have hsw7 := hb7.size)
        | (at_builtin; refine wpList_append_q _ rfl (.tmp 75) (.tmp 77) _ rfl w1.heap.size 3 i0 (.int .i64 0) 1 8 Tryz.underlying71 ei ez ez1 ez2 rfl (by decide) v7 (0 + (p + 1)) ([] ++ (acc.take (p + 1)).map (Value.int .i64)) rfl (hown7.alloc _) _ 1 1 [.int .i64 (t.dst)] rfl rfl (fun _ => ⟨_, rfl, fun j u hj => by rw [addr_add, Nat.zero_add, World.cell?_alloc_at _ _ _ _ rfl]; simpa using hj⟩) (fun u hu => by simp at hu; subst hu; rfl) (by unfold maxLen; omega) (by omega) (by simp; omega) ?_
           intro v8 w8 hown8 hg8 hat8
           have hs8 := hg8.size
           have hb8 : Below wr.heap.size wr w8 := (hb7.alloc hb7.size _).grown hg8 (by simp at hs8 ⊢; omega) (fun k e => by rw [hB7 k e]; exact Nat.le_refl _)
           have hsw8 := hb8.size
           have hown8a := hownr.below hb8)
        | (at_builtin; refine wpList_append_q _ rfl (.tmp 79) (.tmp 82) _ rfl w1.heap.size 3 i0 (.int .i64 0) 1 8 Tryz.underlying71 ei ez ez1 ez2 rfl (by decide) v8 (0 + (p + 1) + 1) ([] ++ (acc.take (p + 1)).map (Value.int .i64) ++ [.int .i64 (t.dst)]) rfl hown8 _ _ _ ((acc.drop (p + 1)).map (Value.int .i64)) rfl (by rw [List.length_map, List.length_drop]; omega) (fun h => ⟨⟨bo, oo + (p + 1), none⟩, by have hne : ¬ co = p + 1 := (by omega); simp [hne], read_dropI hown8a⟩) (one_ints _) (by unfold maxLen; omega) (by omega) (by omega) ?_
           intro v9 w9 hown9 hg9 hat9))
       have hb9 : Below wr.heap.size wr w9 := hb8.grown hg9 (by have := hg9.size; omega) (fun k e => by
        rcases hat8 with h | h
        ·rw [h] at e; rw [hB7 k e]; exact Nat.le_refl _
        rw [h] at e; injection e with e; simp at e; omega)
       have hby9 := hby.trans (hb9.mono hby.size)
       have hl9 : (acc.take (p + 1) ++ (t.dst) :: acc.drop (p + 1)).length = acc.length + 1 := by simp <;> omega
       have ho9 : Own w9 w1.heap.size 3 1 v9 (acc.take (p + 1) ++ (t.dst) :: acc.drop (p + 1)).length ((acc.take (p + 1) ++ (t.dst) :: acc.drop (p + 1)).map (Value.int .i64)) := hown9.cast (by rw [hl9]; omega) (by simp)
       have hl2 : (acc.take (p + 1) ++ (t.dst) :: acc.drop (p + 1)).length <= k + 1 := by omega
       go_roundw
       case rel => exact ⟨k + 1, _, by omega, by go_num, hby9, ho9, hl2, HP.out⟩
       case measure => simp [intOf]; omega
     have HN := Lib.hid (HKEEP.out (by rw [HET.out, decide_eq_true hq]; simpa using hi))
     have hib : (t.src == id) = false := by rw [beq_eq_false_iff_ne]; exact hi
     clear HKEEP HPUT0 HET hq hi
     go_wp2_with fail
     go_roundw
     case rel => exact ⟨k + 1, acc, by omega, by go_num, hbx, hown, by omega, HN⟩
     case measure => simp [intOf]; omega
    have HN := Lib.hid (HKEEP.out (by rw [HET.out, decide_eq_false hq]; rfl))
    rw [decide_eq_false hq] at hbb
    have hbc : ¬ t.bond.toList = bond.toList := by rw [bytes_eq]; exact hq
    clear HKEEP HPUT0 HET hq
    go_wp2_with fail
    go_roundw
    case rel => exact ⟨k + 1, acc, by omega, by go_num, hbx, hown, by omega, HN⟩
    case measure => simp [intOf]; omega
   ·obtain rfl : k = g.ties.length := by omega
    have HE : Hid (endsS g id bond false = acc) := by
     obtain ⟨_, h2, h3⟩ := HQ.out
     rw [List.take_length] at h3
     exact (sortI_of h2 h3).symm
    have hsl := hown.ints HQ.out.1
    go_wp2_with fail
    go_ret
    exact ⟨_, rfl, by rw [HE.out]; exact hsl, hBr⟩
 | true =>
  go_enter Tryz.func63, Tryz.ntmps63
  go_wp2_with fail
  generalize w.alloc (.cells #[.slice An g.nodes.length cn, .slice At g.ties.length ct] 25) = w1 at *
  have X1 := Lib.hid x1
  clear x0
  go_loopw [9, 10] (fun ov i wr => ∃ (k : Nat) (acc : List Int), k <= g.ties.length /\ i = .int .i64 k /\ Below w1.heap.size w1 wr /\ Own wr w1.heap.size 3 1 ov acc.length (acc.map (Value.int .i64)) /\ acc.length <= k /\ Hid (EndsQ g id bond true k acc)) (fun _ i _ => g.ties.length - (intOf i).toNat)
  case atStart => exact ⟨0, [], Nat.zero_le _, rfl, Below.refl _ _, Own.nil _ _ _ _, Nat.le_refl _, ⟨by simp, List.Pairwise.nil, by simp [endsL]⟩⟩
  clear x1
  obtain ⟨k, acc, hk, rfl, hbr, hown, hacc, HQ⟩ := hrel
  obtain ⟨Ao, co, rfl, hoc, hom⟩ := hown.form
  have x1 := cell_below hbr X1.out
  have hBr := hb0.trans (hbr.mono hb0.size)
  by_cases hlt : k < g.ties.length
  ·obtain ⟨t, ht⟩ : ∃ d, g.ties[k]? = some d := ⟨_, List.getElem?_eq_getElem hlt⟩
   obtain ⟨gb, o, rfl, hok, q0, q1, q2⟩ := tie_at (HG.out.below hbr).2 ht
   have hlt' : (k : Int) < (g.ties.length : Int) := by omega
   have hk120 : (k : Int) <= 1000 := by omega
   have hacc' : (acc.length : Int) <= 1000 := by omega
   have ha1 : Below wr.heap.size wr (wr.alloc (.cells #[.string t.bond, .int .i64 t.src, .int .i64 t.dst] 35)) := (Below.refl _ _).alloc (Nat.le_refl _) _
   obtain ⟨z0, z1, z2⟩ := cell_box3 wr (.string t.bond) (.int .i64 t.src) (.int .i64 t.dst) 35
   have hbx := hbr.trans (ha1.mono hbr.size)
   have hown := hown.below ha1
   have HET : Hid (endT true bond id t = (decide (t.bond = bond) && (t.dst == id))) := rfl
   have HKEEP : Hid (endT true bond id t = false -> EndsQ g id bond true (k + 1) acc) := HQ.out.keep ht
   have HPUT0 : Hid (endT true bond id t = true -> ∀ p, p <= acc.length -> (∀ i d, p <= i -> acc[i]? = some d -> t.src < d) -> (p = 0 \/ ∃ q, acc[p - 1]? = some q /\ q <= t.src) -> EndsQ g id bond true (k + 1) (acc.take p ++ (t.src) :: acc.drop p)) := fun h p hp hA hB => HQ.out.put ht hok h hp hA hB
   have hbb : (t.bond.toList == bond.toList) = decide (t.bond = bond) := bytes_beq t.bond bond
   clear ht hok
   go_upto_region 6 with fail
   generalize wr.alloc (.cells #[.string t.bond, .int .i64 t.src, .int .i64 t.dst] 35) = w3 at *
   clear q0 q1 q2 x1
   by_cases hq : t.bond = bond
   ·rw [decide_eq_true hq] at hbb
    have hbc : t.bond.toList = bond.toList := by rw [hq]
    by_cases hi : t.dst = id
    ·have HPUT := Lib.hid (HPUT0.out (by rw [HET.out, decide_eq_true hq, hi]; simp))
     have hib : (t.dst == id) = true := by rw [beq_iff_eq]; exact hi
     clear HKEEP HPUT0 HET hq hi
     go_wp2_with fail
     go_loopw [13] (fun tv wx => ∃ (z : Int) (p : Nat), p <= acc.length /\ z = p /\ tv = .int .i64 z /\ Below w1.heap.size w1 wx /\ Below w3.heap.size w3 wx /\ Hid (∀ i d, p <= i -> acc[i]? = some d -> t.src < d)) (fun tv _ => (intOf tv).toNat)
     case atStart => exact ⟨acc.length, acc.length, Nat.le_refl _, rfl, rfl, hbx, Below.refl _ _, fun i d hi hd => by rw [List.getElem?_eq_none hi] at hd; cases hd⟩
     obtain ⟨z, p, hp, hzp, rfl, hby, hb3, HA⟩ := hrel
     have hownr := hown.below hb3
     cases p with
     | zero =>
      obtain rfl : z = 0 := by omega
      clear hzp
      have hz0 : ¬ ((0 : Int) < 0) := by omega
      have HP : Hid (EndsQ g id bond true (k + 1) (acc.take 0 ++ (t.src) :: acc.drop 0)) := HPUT.out 0 hp HA.out (.inl rfl)
      rcases hown.2 with ⟨hv0, h0⟩ | ⟨bo, oo, cap, cur, hv0, _⟩
      ·injection hv0 with hA _ hc'
       subst hA; subst hc'
       have hws := hby.size
       go_wp2_with (first
        | (at_builtin; refine wpList_append_q _ rfl (.tmp 70) (.tmp 73) _ rfl w1.heap.size 3 i0 (.int .i64 0) 1 8 Tryz.underlying71 ei ez ez1 ez2 rfl (by decide) (.slice none 0 0) 0 [] rfl (Own.nil _ _ _ _) _ (0) _ ((acc.take (0)).map (Value.int .i64)) rfl (by rw [List.length_map, List.length_take]; omega) (fun h => absurd h (by omega)) (one_ints _) (by unfold maxLen; omega) (by omega) (by omega) ?_
           intro v7 w7 hown7 hg7 hat7
           have hs7 := hg7.size
           have hb7 : Below wr.heap.size wr w7 := (Below.refl _ _).grown hg7 (by omega) (fun k e => by cases e)
           have hB7 : ∀ k, v7.ownBlock = some k -> k = wr.heap.size := fun k e => by
             rcases hat7 with h | h
             · rw [h] at e; cases e
             rw [h] at e; injection e with e; omega
           have hsw7 := hb7.size)
        | (at_builtin; refine wpList_append_q _ rfl (.tmp 75) (.tmp 77) _ rfl w1.heap.size 3 i0 (.int .i64 0) 1 8 Tryz.underlying71 ei ez ez1 ez2 rfl (by decide) v7 (0 + (0)) ([] ++ (acc.take (0)).map (Value.int .i64)) rfl (hown7.alloc _) _ 1 1 [.int .i64 (t.src)] rfl rfl (fun _ => ⟨_, rfl, fun j u hj => by rw [addr_add, Nat.zero_add, World.cell?_alloc_at _ _ _ _ rfl]; simpa using hj⟩) (fun u hu => by simp at hu; subst hu; rfl) (by unfold maxLen; omega) (by omega) (by simp; omega) ?_
           intro v8 w8 hown8 hg8 hat8
           have hs8 := hg8.size
           have hb8 : Below wr.heap.size wr w8 := (hb7.alloc hb7.size _).grown hg8 (by simp at hs8 ⊢; omega) (fun k e => by rw [hB7 k e]; exact Nat.le_refl _)
           have hsw8 := hb8.size
           have hown8a := hownr.below hb8)
        | (at_builtin; refine wpList_append_q _ rfl (.tmp 79) (.tmp 82) _ rfl w1.heap.size 3 i0 (.int .i64 0) 1 8 Tryz.underlying71 ei ez ez1 ez2 rfl (by decide) v8 (0 + (0) + 1) ([] ++ (acc.take (0)).map (Value.int .i64) ++ [.int .i64 (t.src)]) rfl hown8 _ _ _ ((acc.drop (0)).map (Value.int .i64)) rfl (by rw [List.length_map, List.length_drop]; omega) (fun h => (Nat.lt_irrefl _ h).elim) (one_ints _) (by unfold maxLen; omega) (by omega) (by omega) ?_
           intro v9 w9 hown9 hg9 hat9))
       have hb9 : Below wr.heap.size wr w9 := hb8.grown hg9 (by have := hg9.size; omega) (fun k e => by
        rcases hat8 with h | h
        ·rw [h] at e; rw [hB7 k e]; exact Nat.le_refl _
        rw [h] at e; injection e with e; simp at e; omega)
       have hby9 := hby.trans (hb9.mono hby.size)
       have hl9 : (acc.take (0) ++ (t.src) :: acc.drop (0)).length = acc.length + 1 := by simp <;> omega
       have ho9 : Own w9 w1.heap.size 3 1 v9 (acc.take (0) ++ (t.src) :: acc.drop (0)).length ((acc.take (0) ++ (t.src) :: acc.drop (0)).map (Value.int .i64)) := hown9.cast (by rw [hl9]; omega) (by simp)
       have hl2 : (acc.take (0) ++ (t.src) :: acc.drop (0)).length <= k + 1 := by omega
       go_roundw
       case rel => exact ⟨k + 1, _, by omega, by go_num, hby9, ho9, hl2, HP.out⟩
       case measure => simp [intOf]; omega
      ·injection hv0 with hA _ hc'
       subst hA
       clear hc'
       have hws := hby.size
       go_wp2_with (first
        | (at_builtin; refine wpList_append_q _ rfl (.tmp 70) (.tmp 73) _ rfl w1.heap.size 3 i0 (.int .i64 0) 1 8 Tryz.underlying71 ei ez ez1 ez2 rfl (by decide) (.slice none 0 0) 0 [] rfl (Own.nil _ _ _ _) _ (0) _ ((acc.take (0)).map (Value.int .i64)) rfl (by rw [List.length_map, List.length_take]; omega) (fun h => absurd h (by omega)) (one_ints _) (by unfold maxLen; omega) (by omega) (by omega) ?_
           intro v7 w7 hown7 hg7 hat7
           have hs7 := hg7.size
           have hb7 : Below wr.heap.size wr w7 := (Below.refl _ _).grown hg7 (by omega) (fun k e => by cases e)
           have hB7 : ∀ k, v7.ownBlock = some k -> k = wr.heap.size := fun k e => by
             rcases hat7 with h | h
             · rw [h] at e; cases e
             rw [h] at e; injection e with e; omega
           have hsw7 := hb7.size)
        | (at_builtin; refine wpList_append_q _ rfl (.tmp 75) (.tmp 77) _ rfl w1.heap.size 3 i0 (.int .i64 0) 1 8 Tryz.underlying71 ei ez ez1 ez2 rfl (by decide) v7 (0 + (0)) ([] ++ (acc.take (0)).map (Value.int .i64)) rfl (hown7.alloc _) _ 1 1 [.int .i64 (t.src)] rfl rfl (fun _ => ⟨_, rfl, fun j u hj => by rw [addr_add, Nat.zero_add, World.cell?_alloc_at _ _ _ _ rfl]; simpa using hj⟩) (fun u hu => by simp at hu; subst hu; rfl) (by unfold maxLen; omega) (by omega) (by simp; omega) ?_
           intro v8 w8 hown8 hg8 hat8
           have hs8 := hg8.size
           have hb8 : Below wr.heap.size wr w8 := (hb7.alloc hb7.size _).grown hg8 (by simp at hs8 ⊢; omega) (fun k e => by rw [hB7 k e]; exact Nat.le_refl _)
           have hsw8 := hb8.size
           have hown8a := hownr.below hb8)
        | (at_builtin; refine wpList_append_q _ rfl (.tmp 79) (.tmp 82) _ rfl w1.heap.size 3 i0 (.int .i64 0) 1 8 Tryz.underlying71 ei ez ez1 ez2 rfl (by decide) v8 (0 + (0) + 1) ([] ++ (acc.take (0)).map (Value.int .i64) ++ [.int .i64 (t.src)]) rfl hown8 _ _ _ ((acc.drop (0)).map (Value.int .i64)) rfl (by rw [List.length_map, List.length_drop]; omega) (fun h => ⟨⟨bo, oo + 0, none⟩, by simp, read_dropI hown8a⟩) (one_ints _) (by unfold maxLen; omega) (by omega) (by omega) ?_
           intro v9 w9 hown9 hg9 hat9))
       have hb9 : Below wr.heap.size wr w9 := hb8.grown hg9 (by have := hg9.size; omega) (fun k e => by
        rcases hat8 with h | h
        ·rw [h] at e; rw [hB7 k e]; exact Nat.le_refl _
        rw [h] at e; injection e with e; simp at e; omega)
       have hby9 := hby.trans (hb9.mono hby.size)
       have hl9 : (acc.take (0) ++ (t.src) :: acc.drop (0)).length = acc.length + 1 := by simp <;> omega
       have ho9 : Own w9 w1.heap.size 3 1 v9 (acc.take (0) ++ (t.src) :: acc.drop (0)).length ((acc.take (0) ++ (t.src) :: acc.drop (0)).map (Value.int .i64)) := hown9.cast (by rw [hl9]; omega) (by simp)
       have hl2 : (acc.take (0) ++ (t.src) :: acc.drop (0)).length <= k + 1 := by omega
       go_roundw
       case rel => exact ⟨k + 1, _, by omega, by go_num, hby9, ho9, hl2, HP.out⟩
       case measure => simp [intOf]; omega
     | succ p =>
      obtain rfl : z = (p : Int) + 1 := by omega
      clear hzp
      obtain ⟨q, hq⟩ : ∃ d, acc[p]? = some d := ⟨_, List.getElem?_eq_getElem (by omega)⟩
      obtain ⟨bo, oo, hAo, _, r0⟩ := int_at (hownr.ints HQ.out.1) hq
      subst hAo
      have hpl : (p : Int) < (acc.length : Int) := by omega
      have hp0 : (0 : Int) < (p : Int) + 1 := by omega
      have hpw : IntKind.i64.wrap ((p : Int) + 1 - 1) = (p : Int) := by rw [IntWalk.i64_in _ (by omega)]; omega
      by_cases hc : t.src < q
      ·have HN : Hid (∀ i d, p <= i -> acc[i]? = some d -> t.src < d) := fun i d hi hd => by
        by_cases hip : i = p
        ·subst hip; rw [hq] at hd; injection hd with hd; subst hd; exact hc
        exact HA.out i d (by omega) hd
       clear hq
       go_wp2_with fail
       go_roundw
       case rel => exact ⟨p, p, by omega, rfl, by go_num, hby, hb3, HN⟩
       case measure => simp [intOf]
      have hc' : q <= t.src := by omega
      have HP : Hid (EndsQ g id bond true (k + 1) (acc.take (p + 1) ++ (t.src) :: acc.drop (p + 1))) := HPUT.out (p + 1) hp HA.out (.inr ⟨q, by simpa using hq, hc'⟩)
      have hpo : (p : Int) + 1 <= (co : Int) := by omega
      have hpl' : (p : Int) + 1 <= (acc.length : Int) := by omega
      clear hc hq
      have hws := hby.size
      go_wp2_with (first
       | (at_builtin; refine wpList_append_q _ rfl (.tmp 70) (.tmp 73) _ rfl w1.heap.size 3 i0 (.int .i64 0) 1 8 Tryz.underlying71 ei ez ez1 ez2 rfl (by decide) (.slice none 0 0) 0 [] rfl (Own.nil _ _ _ _) _ (p + 1) _ ((acc.take (p + 1)).map (Value.int .i64)) rfl (by rw [List.length_map, List.length_take]; omega) (fun _ => ⟨_, rfl, read_takeI hownr⟩) (one_ints _) (by unfold maxLen; omega) (by omega) (by omega) ?_
          intro v7 w7 hown7 hg7 hat7
          have hs7 := hg7.size
          have hb7 : Below wr.heap.size wr w7 := (Below.refl _ _).grown hg7 (by omega) (fun k e => by cases e)
          have hB7 : ∀ k, v7.ownBlock = some k -> k = wr.heap.size := fun k e => by
            rcases hat7 with h | h
            · rw [h] at e; cases e
            rw [h] at e; injection e with e; omega
          have hsw7 := hb7.size)
       | (at_builtin; refine wpList_append_q _ rfl (.tmp 75) (.tmp 77) _ rfl w1.heap.size 3 i0 (.int .i64 0) 1 8 Tryz.underlying71 ei ez ez1 ez2 rfl (by decide) v7 (0 + (p + 1)) ([] ++ (acc.take (p + 1)).map (Value.int .i64)) rfl (hown7.alloc _) _ 1 1 [.int .i64 (t.src)] rfl rfl (fun _ => ⟨_, rfl, fun j u hj => by rw [addr_add, Nat.zero_add, World.cell?_alloc_at _ _ _ _ rfl]; simpa using hj⟩) (fun u hu => by simp at hu; subst hu; rfl) (by unfold maxLen; omega) (by omega) (by simp; omega) ?_
          intro v8 w8 hown8 hg8 hat8
          have hs8 := hg8.size
          have hb8 : Below wr.heap.size wr w8 := (hb7.alloc hb7.size _).grown hg8 (by simp at hs8 ⊢; omega) (fun k e => by rw [hB7 k e]; exact Nat.le_refl _)
          have hsw8 := hb8.size
          have hown8a := hownr.below hb8)
       | (at_builtin; refine wpList_append_q _ rfl (.tmp 79) (.tmp 82) _ rfl w1.heap.size 3 i0 (.int .i64 0) 1 8 Tryz.underlying71 ei ez ez1 ez2 rfl (by decide) v8 (0 + (p + 1) + 1) ([] ++ (acc.take (p + 1)).map (Value.int .i64) ++ [.int .i64 (t.src)]) rfl hown8 _ _ _ ((acc.drop (p + 1)).map (Value.int .i64)) rfl (by rw [List.length_map, List.length_drop]; omega) (fun h => ⟨⟨bo, oo + (p + 1), none⟩, by have hne : ¬ co = p + 1 := (by omega); simp [hne], read_dropI hown8a⟩) (one_ints _) (by unfold maxLen; omega) (by omega) (by omega) ?_
          intro v9 w9 hown9 hg9 hat9))
      have hb9 : Below wr.heap.size wr w9 := hb8.grown hg9 (by have := hg9.size; omega) (fun k e => by
       rcases hat8 with h | h
       ·rw [h] at e; rw [hB7 k e]; exact Nat.le_refl _
       rw [h] at e; injection e with e; simp at e; omega)
      have hby9 := hby.trans (hb9.mono hby.size)
      have hl9 : (acc.take (p + 1) ++ (t.src) :: acc.drop (p + 1)).length = acc.length + 1 := by simp <;> omega
      have ho9 : Own w9 w1.heap.size 3 1 v9 (acc.take (p + 1) ++ (t.src) :: acc.drop (p + 1)).length ((acc.take (p + 1) ++ (t.src) :: acc.drop (p + 1)).map (Value.int .i64)) := hown9.cast (by rw [hl9]; omega) (by simp)
      have hl2 : (acc.take (p + 1) ++ (t.src) :: acc.drop (p + 1)).length <= k + 1 := by omega
      go_roundw
      case rel => exact ⟨k + 1, _, by omega, by go_num, hby9, ho9, hl2, HP.out⟩
      case measure => simp [intOf]; omega
    have HN := Lib.hid (HKEEP.out (by rw [HET.out, decide_eq_true hq]; simpa using hi))
    have hib : (t.dst == id) = false := by rw [beq_eq_false_iff_ne]; exact hi
    clear HKEEP HPUT0 HET hq hi
    go_wp2_with fail
    go_roundw
    case rel => exact ⟨k + 1, acc, by omega, by go_num, hbx, hown, by omega, HN⟩
    case measure => simp [intOf]; omega
   have HN := Lib.hid (HKEEP.out (by rw [HET.out, decide_eq_false hq]; rfl))
   rw [decide_eq_false hq] at hbb
   have hbc : ¬ t.bond.toList = bond.toList := by rw [bytes_eq]; exact hq
   clear HKEEP HPUT0 HET hq
   go_wp2_with fail
   go_roundw
   case rel => exact ⟨k + 1, acc, by omega, by go_num, hbx, hown, by omega, HN⟩
   case measure => simp [intOf]; omega
  obtain rfl : k = g.ties.length := by omega
  have HE : Hid (endsS g id bond true = acc) := by
   obtain ⟨_, h2, h3⟩ := HQ.out
   rw [List.take_length] at h3
   exact (sortI_of h2 h3).symm
  have hsl := hown.ints HQ.out.1
  go_wp2_with fail
  go_ret
  exact ⟨_, rfl, by rw [HE.out]; exact hsl, hBr⟩
open Go.RowKit Go.Extern.Stop Go.Stop Go.Extern
/-! ### CLOSED FACTS ON THE MODEL's ENTRIES FOR internal/reflectlite, at this program's types: 25: *p.E · 27: **p.E · 23: error · 45: reflectlite's rtype · 1: how many package-level variables the dump has -/
theorem as_valueOfP (t : Addr) (w : World) : (ReflectliteValue.unpack (.iface 192 (.pointer (some t)))).run Tryz.prog w
 = .ok (.agg #[.pointer (some ⟨2, 192, none⟩), .pointer (some ⟨w.heap.size, 0, none⟩), .int .u64 150]) (w.alloc (.cells #[.pointer (some t)] 192)) := by kernel_rfl
theorem as_typeP (a : Addr) (w : World) : (ReflectliteValue.methodAny (ReflectliteValue.valueError "reflectlite.Value.Type" 0) (fun t _ _ _ => ReflectliteType.toType t) #[.agg #[.pointer (some ⟨2, 192, none⟩), .pointer (some a), .int .u64 150]]).run Tryz.prog w
 = .ok (.iface 296 (.agg #[.pointer (some ⟨2, 192, none⟩)])) w := by kernel_rfl
theorem as_methodKind (h : Value) (w : World) : (Go.method 472 296 (.agg #[h]) "Kind").run Tryz.prog w = .ok (256, h) w := by kernel_rfl
theorem as_kindP (w : World) : ((ReflectliteType.abiMethod fun t => (fun a : Nat => Value.int IntKind.u8 (a : Int)) <$> Rtype.kind t) #[.pointer (some ⟨2, 192, none⟩)]).run Tryz.prog w = .ok (.int .u8 22) w := by kernel_rfl
theorem as_kindE (w : World) : ((ReflectliteType.abiMethod fun t => (fun a : Nat => Value.int IntKind.u8 (a : Int)) <$> Rtype.kind t) #[.pointer (some ⟨2, 122, none⟩)]).run Tryz.prog w = .ok (.int .u8 2) w := by kernel_rfl
/-! ### THE ENTRIES THAT READ OR WRITE MEMORY: laws with a premise on the cell (after Derived/Lib/ReflectliteSlice.lean's manner: each unfolding a lemma of its own, by rfl) -/
theorem rlm (z : Sem Value) (f : TypeId -> Addr -> Nat -> Nat -> Sem Value) (v : Value) :
 ReflectliteValue.method z f #[v] = (do match <- ReflectliteValue.parts v with | none => z | some (t, a, fl) => f t a fl (fl % 32)) := rfl
theorem as_partsP (a : Addr) (w : World) : (ReflectliteValue.parts (.agg #[.pointer (some ⟨2, 192, none⟩), .pointer (some a), .int .u64 150])).run Tryz.prog w = .ok (some (192, a, 150)) w := by kernel_rfl
theorem as_isNilP (a p : Addr) (W : World) (ha : W.cell? a = some (.pointer (some p))) :
 (ReflectliteValue.method (ReflectliteValue.valueError "reflectlite.Value.IsNil" 0) ReflectliteValue.isNil #[.agg #[.pointer (some ⟨2, 192, none⟩), .pointer (some a), .int .u64 150]]).run Tryz.prog W = .ok (.bool false) W := by
 rw [rlm]
 simp only [Sem.run_bind, as_partsP, Result.andThen]
 simp [ReflectliteValue.isNil, loadVar, isAgg, underlying, Tryz.underlying192, ha, Result.andThen]
theorem as_methodElem (h : Value) (w : World) : (Go.method 472 296 (.agg #[h]) "Elem").run Tryz.prog w = .ok (269, .agg #[h]) w := by kernel_rfl
theorem as_methodImplements (h : Value) (w : World) : (Go.method 472 296 (.agg #[h]) "Implements").run Tryz.prog w = .ok (270, .agg #[h]) w := by kernel_rfl
theorem as_methodAssignableTo (h : Value) (w : World) : (Go.method 472 296 (.agg #[h]) "AssignableTo").run Tryz.prog w = .ok (267, .agg #[h]) w := by kernel_rfl
theorem as_elemP (w : World) : (ReflectliteType.method ReflectliteType.elem #[.agg #[.pointer (some ⟨2, 192, none⟩)]]).run Tryz.prog w = .ok (.iface 296 (.agg #[.pointer (some ⟨2, 122, none⟩)])) w := by kernel_rfl
theorem as_implementsE (w : World) : (ReflectliteType.relation "Implements" ReflectliteType.implements_ #[.agg #[.pointer (some ⟨2, 122, none⟩)], .iface 296 (.agg #[.pointer (some ⟨2, 43, none⟩)])]).run Tryz.prog w = .ok (.bool true) w := by kernel_rfl
theorem as_typeOfE (v : Value) (w : World) : (ReflectliteType.typeOf #[.iface 122 v]).run Tryz.prog w = .ok (.iface 296 (.agg #[.pointer (some ⟨2, 122, none⟩)])) w := by kernel_rfl
theorem as_assignableE (w : World) : (ReflectliteType.relation "AssignableTo" ReflectliteType.assignableTo #[.agg #[.pointer (some ⟨2, 122, none⟩)], .iface 296 (.agg #[.pointer (some ⟨2, 122, none⟩)])]).run Tryz.prog w = .ok (.bool true) w := by kernel_rfl
theorem as_valueOfE (e : Int) (w : World) : (ReflectliteValue.unpack (.iface 122 (.int .i64 e))).run Tryz.prog w
 = .ok (.agg #[.pointer (some ⟨2, 122, none⟩), .pointer (some ⟨w.heap.size, 0, none⟩), .int .u64 130]) (w.alloc (.cells #[.int .i64 e] 122)) := by kernel_rfl
theorem as_elemOfP (w : World) : (Rtype.elem? 192).run Tryz.prog w = .ok (some 122) w := by kernel_rfl
theorem as_mkE (p : Addr) (w : World) : (ReflectliteValue.mk 122 p ReflectliteValue.flagAddr).run Tryz.prog w = .ok (.agg #[.pointer (some ⟨2, 122, none⟩), .pointer (some p), .int .u64 386]) w := by kernel_rfl
theorem as_elemVP (a p : Addr) (W : World) (ha : W.cell? a = some (.pointer (some p))) :
 (ReflectliteValue.method (ReflectliteValue.valueError "reflectlite.Value.Elem" 0) ReflectliteValue.elem #[.agg #[.pointer (some ⟨2, 192, none⟩), .pointer (some a), .int .u64 150]]).run Tryz.prog W
   = .ok (.agg #[.pointer (some ⟨2, 122, none⟩), .pointer (some p), .int .u64 386]) W := by
 rw [rlm]
 simp only [Sem.run_bind, as_partsP, Result.andThen]
 simp [ReflectliteValue.elem, loadVar, isAgg, underlying, Tryz.underlying192, ha, Result.andThen, as_elemOfP, as_mkE]
theorem rls (v x : Value) : ReflectliteValue.set #[v, x] = (do
 let (some (dst, a, fl), some (src, b, _)) := (<- ReflectliteValue.parts v, <- ReflectliteValue.parts x)
  | unsupported (.noEntry "extern/(internal/reflectlite.Value).Set.zeroValue")
 if fl / ReflectliteValue.flagAddr % 2 == 0 then unsupported (.noEntry "extern/(internal/reflectlite.Value).Set.unaddressable")
 let val <- loadVar src b
 if <- Rtype.directlyAssignable dst src then storeVar dst a val
 else if <- Rtype.implements dst src then
  if (<- Rtype.kind src) == 20 then
   match val with
   | .nilIface => unsupported (.noEntry "extern/reflectlite: a nil value of one interface type handed on as a value of another")
   | _ => storeVar dst a val
  else storeVar dst a (.iface src val)
 else panicString ("reflectlite.Set: value of type " ++ (<- Rtype.spelt src) ++ " is not assignable to type " ++ (<- Rtype.spelt dst))
 pure (.tuple #[])) := rfl
theorem as_partsEa (a : Addr) (w : World) : (ReflectliteValue.parts (.agg #[.pointer (some ⟨2, 122, none⟩), .pointer (some a), .int .u64 386])).run Tryz.prog w = .ok (some (122, a, 386)) w := by kernel_rfl
theorem as_partsE (a : Addr) (w : World) : (ReflectliteValue.parts (.agg #[.pointer (some ⟨2, 122, none⟩), .pointer (some a), .int .u64 130])).run Tryz.prog w = .ok (some (122, a, 130)) w := by kernel_rfl
theorem as_directE (w : World) : (Rtype.directlyAssignable 122 122).run Tryz.prog w = .ok true w := by kernel_rfl
theorem as_setE (ta b : Addr) (e : Int) (old : Value) (W : World) (hb : W.cell? b = some (.int .i64 e)) (ht : W.cell? ta = some old) (hf : W.frozen? ta = false) :
 (ReflectliteValue.set #[.agg #[.pointer (some ⟨2, 122, none⟩), .pointer (some ta), .int .u64 386], .agg #[.pointer (some ⟨2, 122, none⟩), .pointer (some b), .int .u64 130]]).run Tryz.prog W
   = .ok (.tuple #[]) (W.setCell ta (.int .i64 e)) := by
 rw [rls]
 simp only [Sem.run_bind, as_partsEa, as_partsE, Result.andThen]
 simp [ReflectliteValue.flagAddr, loadVar, isAgg, underlying, Tryz.underlying122, hb, Result.andThen, as_directE, storeVar, Value.cells, storeCells, Addr.add]
 rw [run_store Tryz.prog W ta _ _ (by rfl)]
 simp [ht, hf]
set_option maxRecDepth 100000 in
set_option maxHeartbeats 4000000 in
theorem as_hit (e : Int) (t : Addr) (old : Value) (w : World) (hg : w.cell? ⟨0, 0, none⟩ = some (.iface 296 (.agg #[.pointer (some ⟨2, 43, none⟩)]))) (ht0 : w.cell? t = some old) (hf0 : w.frozen? t = false) :
 Calls Tryz.prog 111 #[.iface 122 (.int .i64 e), .iface 192 (.pointer (some t))] w fun ev w' => ev = .returned (.bool true) /\ w' = ((((w.alloc (.cells #[.pointer (some t)] 192)).alloc (.cells #[.pointer (some ⟨2, 192, none⟩), .pointer (some ⟨w.heap.size, 0, none⟩), .int .u64 150] 247)).alloc (.cells #[.pointer (some ⟨2, 192, none⟩), .pointer (some ⟨w.heap.size, 0, none⟩), .int .u64 150] 247)).alloc (.cells #[.int .i64 e] 122)).setCell t (.int .i64 e) := by
 have h6 := @run_callFunc_extern Tryz.prog 164 _ (fun args => ReflectliteValue.unpack (args.getD 0 (.tuple #[]))) Tryz.func164 (by kernel_rfl) (by kernel_rfl) (by kernel_rfl) (by kernel_rfl)
 have h7 := @run_callFunc_extern Tryz.prog 165 _ (ReflectliteValue.methodAny (ReflectliteValue.valueError "reflectlite.Value.Type" 0) (fun t _ _ _ => ReflectliteType.toType t)) Tryz.func165 (by kernel_rfl) (by kernel_rfl) (by kernel_rfl) (by kernel_rfl)
 have h8 := @run_callFunc_extern Tryz.prog 166 _ (ReflectliteValue.method (ReflectliteValue.valueError "reflectlite.Value.IsNil" 0) ReflectliteValue.isNil) Tryz.func166 (by kernel_rfl) (by kernel_rfl) (by kernel_rfl) (by kernel_rfl)
 have h27 := @run_callFunc_extern Tryz.prog 256 _ (ReflectliteType.abiMethod fun t => do pure (.int .u8 (<- Rtype.kind t))) Tryz.func256 (by kernel_rfl) (by kernel_rfl) (by kernel_rfl) (by kernel_rfl)
 have h37 := @run_callFunc_extern Tryz.prog 269 _ (ReflectliteType.method ReflectliteType.elem) Tryz.func269 (by kernel_rfl) (by kernel_rfl) (by kernel_rfl) (by kernel_rfl)
 have h38 := @run_callFunc_extern Tryz.prog 270 _ (ReflectliteType.relation "Implements" ReflectliteType.implements_) Tryz.func270 (by kernel_rfl) (by kernel_rfl) (by kernel_rfl) (by kernel_rfl)
 have h10 := @run_callFunc_extern Tryz.prog 205 _ ReflectliteType.typeOf Tryz.func205 (by kernel_rfl) (by kernel_rfl) (by kernel_rfl) (by kernel_rfl)
 have h35 := @run_callFunc_extern Tryz.prog 267 _ (ReflectliteType.relation "AssignableTo" ReflectliteType.assignableTo) Tryz.func267 (by kernel_rfl) (by kernel_rfl) (by kernel_rfl) (by kernel_rfl)
 have h11 := @run_callFunc_extern Tryz.prog 206 _ (ReflectliteValue.method (ReflectliteValue.valueError "reflectlite.Value.Elem" 0) ReflectliteValue.elem) Tryz.func206 (by kernel_rfl) (by kernel_rfl) (by kernel_rfl) (by kernel_rfl)
 have h12 := @run_callFunc_extern Tryz.prog 207 _ ReflectliteValue.set Tryz.func207 (by kernel_rfl) (by kernel_rfl) (by kernel_rfl) (by kernel_rfl)
 have tO := as_typeOfE
 have mA := as_methodAssignableTo
 have a25 := as_assignableE
 have v25 := as_valueOfE
 have f6 := as_valueOfP
 have f7 := as_typeP
 have mK := as_methodKind
 have mE := as_methodElem
 have mI := as_methodImplements
 have k27 := as_kindP
 have k25 := as_kindE
 have e27 := as_elemP
 have i25 := as_implementsE
 have n8 := as_isNilP ⟨w.heap.size, 0, none⟩ t ((w.alloc (.cells #[.pointer (some t)] 192)).alloc (.cells #[.pointer (some ⟨2, 192, none⟩), .pointer (some ⟨w.heap.size, 0, none⟩), .int .u64 150] 247)) (by simp)
 have hlt : 0 < w.heap.size := World.block_lt_of_cell? _ _ hg
 have hg2 : ((w.alloc (.cells #[.pointer (some t)] 192)).alloc (.cells #[.pointer (some ⟨2, 192, none⟩), .pointer (some ⟨w.heap.size, 0, none⟩), .int .u64 150] 247)).cell? ⟨0, 0, none⟩ = some (.iface 296 (.agg #[.pointer (some ⟨2, 43, none⟩)])) := by
  rw [World.cell?_alloc_lt _ _ ⟨0, 0, none⟩ (by simp only [World.size_alloc]; omega), World.cell?_alloc_lt _ _ ⟨0, 0, none⟩ hlt]; exact hg
 have htl : t.block < w.heap.size := by
  rcases Nat.lt_or_ge t.block w.heap.size with h | h
  ·exact h
  simp [World.cell?, Array.getElem?_eq_none h] at ht0
 have el := as_elemVP ⟨w.heap.size, 0, none⟩ t (((w.alloc (.cells #[.pointer (some t)] 192)).alloc (.cells #[.pointer (some ⟨2, 192, none⟩), .pointer (some ⟨w.heap.size, 0, none⟩), .int .u64 150] 247)).alloc (.cells #[.pointer (some ⟨2, 192, none⟩), .pointer (some ⟨w.heap.size, 0, none⟩), .int .u64 150] 247)) (by rw [World.cell?_alloc_lt _ _ ⟨w.heap.size, 0, none⟩ (by simp; omega)]; simp)
 have st := as_setE t ⟨w.heap.size + 1 + 1 + 1, 0, none⟩ e old ((((w.alloc (.cells #[.pointer (some t)] 192)).alloc (.cells #[.pointer (some ⟨2, 192, none⟩), .pointer (some ⟨w.heap.size, 0, none⟩), .int .u64 150] 247)).alloc (.cells #[.pointer (some ⟨2, 192, none⟩), .pointer (some ⟨w.heap.size, 0, none⟩), .int .u64 150] 247)).alloc (.cells #[.int .i64 e] 122))
  (by rw [World.cell?_alloc_at _ _ _ _ (by simp)]; rfl)
  (by rw [World.cell?_alloc_lt _ _ t (by simp; omega), World.cell?_alloc_lt _ _ t (by simp; omega), World.cell?_alloc_lt _ _ t (by simp; omega), World.cell?_alloc_lt _ _ t htl]; exact ht0)
  (by rw [World.frozen?_alloc_old _ _ t (by simp; omega), World.frozen?_alloc_old _ _ t (by simp; omega), World.frozen?_alloc_old _ _ t (by simp; omega), World.frozen?_alloc_old _ _ t (Nat.ne_of_lt htl)]; exact hf0)
 go_enter Tryz.func111, Tryz.ntmps111
 go_wp2
 refine wp_loop_rounds 1 ?_
 rw [rounds_succ]
 go_wp2
 go_ret
 exact ⟨rfl, rfl⟩
def GlobOk (w : World) : Prop := w.cell? ⟨0, 0, none⟩ = some (.iface 296 (.agg #[.pointer (some ⟨2, 43, none⟩)]))
theorem GlobOk.below {w w' : World} (hb : Below w.heap.size w w') (h : GlobOk w) : GlobOk w' := cell_below hb h
theorem below_al {w w' : World} (h : Below w.heap.size w w') (o : Obj) : Below w.heap.size w (w'.alloc o) := h.alloc h.size o
set_option maxHeartbeats 1000000 in
theorem told_any (k : Int) (w : World) (hg : GlobOk w) : Calls Tryz.prog 51 #[errV k] w fun e w' => e = .returned (.int .i64 k) /\ Below w.heap.size w w' := by
 by_cases hk : k = 0
 ·subst hk
  rw [errV_zero rfl]
  go_enter Tryz.func51, Tryz.ntmps51
  go_wp2_with fail
  go_ret
  exact ⟨rfl, Below.refl _ _⟩
 rw [errV_some hk]
 clear hk
 have hb0 : Below w.heap.size w (w.alloc (.cells #[.int .i64 0] 122)) := (Below.refl _ _).alloc (Nat.le_refl _) _
 have h1 := as_hit k ⟨w.heap.size, 0, none⟩ (.int .i64 0) (w.alloc (.cells #[.int .i64 0] 122)) (hg.below hb0) (by rw [World.cell?_alloc_at _ _ _ _ rfl]; rfl) (by simp)
 clear hg
 go_enter Tryz.func51, Tryz.ntmps51
 go_wp2_with fail
 refine h1.mono ?_
 clear h1
 rintro e w' ⟨rfl, rfl⟩
 go_wp2_with fail
 go_ret
 refine ⟨rfl, ?_⟩
 exact below_al (below_al (below_al (below_al (below_al (Below.refl _ _) _) _) _) _) _
theorem same_any (k n : Int) (w : World) (hg : GlobOk w) : Calls Tryz.prog 10 #[errV k, .int .i64 n] w fun e w' => e = .returned (.bool (k == n)) /\ Below w.heap.size w w' := by
 have h1 := told_any k w hg
 generalize errV k = v at *
 clear hg
 go_enter Tryz.func10, Tryz.ntmps10
 go_wp2_with fail
 refine h1.mono ?_
 clear h1
 rintro e w' ⟨rfl, hb⟩
 go_wp2_with fail
 go_ret
 exact ⟨rfl, hb⟩
end Go.Proofs.YtngbbefpphinjaaGreatDoor
