/- Parts: SortI, EndA, ChkP, ChkQ. -/
import Derived.Test.YthefofclbepkoaaMg01
import Derived.Test.YthefofclbepkoaaRows
import Derived.Shelf.SortM.Plain
import Derived.Shelf.SortM.SortNone
import Derived.Ground.SlgmProg
import Derived.Test.YthefofclbepkoaaMg16
import Derived.Test.YthefofclbepkoaaMg11
import Derived.Test.YthefofclbepkoaaMg13
import Derived.Test.YthefofclbepkoaaMg14
/- Contract: slices.Sort at whole numbers, at a row of the call's own. No condition. -/
namespace Go.Proofs.Ythefofclbepkoaa
open Go Go.RowKit Go.Sort Go.Proofs

-- written by sortlay.py for the seat Ythefofclbepkoaa
def sortLay_ren : Go.Shelf.Ren := ⟨fun | 5 => 121 | 8 => 134 | 7 => 133 | 19 => 151 | 20 => 152 | 10 => 142 | 11 => 143 | 12 => 144 | 13 => 145 | 14 => 146 | 15 => 147 | 16 => 148 | 17 => 149 | 18 => 150 | 30 => 155 | 31 => 156 | 32 => 157 | 33 => 158 | 34 => 159 | 35 => 85 | 40 => 160 | n => n, fun | 23 => 160 | 25 => 3 | 3 => 3 | 32 => 158 | 22 => 160 | 0 => 0 | 44 => 224 | 46 => 226 | 4 => 4 | 36 => 217 | 35 => 216 | 41 => 80 | 5 => 5 | 9 => 9 | 53 => 228 | 57 => 232 | 63 => 234 | 64 => 235 | n => n, fun | n => n⟩
theorem sortLay : Go.Proofs.SlLaysM.n5 Try.prog sortLay_ren := {
  mixed := by kernel_rfl,
  f5 := ⟨Try.f121.name, by decide, Try.func121.trans (congrArg some (by kernel_rfl))⟩,
  f7 := ⟨Try.f133.name, by decide, Try.func133.trans (congrArg some (by kernel_rfl))⟩,
  f8 := Try.func134.trans (congrArg some (by kernel_rfl)),
  f10 := ⟨Try.f142.name, by decide, Try.func142.trans (congrArg some (by kernel_rfl))⟩,
  f11 := ⟨Try.f143.name, by decide, Try.func143.trans (congrArg some (by kernel_rfl))⟩,
  f12 := ⟨Try.f144.name, by decide, Try.func144.trans (congrArg some (by kernel_rfl))⟩,
  f13 := ⟨Try.f145.name, by decide, Try.func145.trans (congrArg some (by kernel_rfl))⟩,
  f14 := ⟨Try.f146.name, by decide, Try.func146.trans (congrArg some (by kernel_rfl))⟩,
  f15 := ⟨Try.f147.name, by decide, Try.func147.trans (congrArg some (by kernel_rfl))⟩,
  f16 := ⟨Try.f148.name, by decide, Try.func148.trans (congrArg some (by kernel_rfl))⟩,
  f17 := ⟨Try.f149.name, by decide, Try.func149.trans (congrArg some (by kernel_rfl))⟩,
  f18 := ⟨Try.f150.name, by decide, Try.func150.trans (congrArg some (by kernel_rfl))⟩,
  f19 := Try.func151.trans (congrArg some (by kernel_rfl)),
  f20 := Try.func152.trans (congrArg some (by kernel_rfl)),
  f30 := ⟨Try.f155.name, by decide, Try.func155.trans (congrArg some (by kernel_rfl))⟩,
  f31 := Try.func156.trans (congrArg some (by kernel_rfl)),
  f32 := Try.func157.trans (congrArg some (by kernel_rfl)),
  f33 := ⟨Try.f158.name, by decide, Try.func158.trans (congrArg some (by kernel_rfl))⟩,
  f34 := ⟨Try.f159.name, by decide, Try.func159.trans (congrArg some (by kernel_rfl))⟩,
  f35 := ⟨Try.f85.name, by decide, Try.func85.trans (congrArg some (by kernel_rfl))⟩,
  f40 := ⟨Try.f160.name, by decide, Try.func160.trans (congrArg some (by kernel_rfl))⟩,
  t0 := Try.underlying0,
  a0 := Try.isAgg0,
  z0 := Try.sizeOf0,
  v0 := Try.zeroValue0,
  t3 := Try.underlying3,
  a3 := Try.isAgg3,
  z3 := Try.sizeOf3,
  v3 := Try.zeroValue3,
  t4 := Try.underlying4,
  a4 := Try.isAgg4,
  z4 := Try.sizeOf4,
  v4 := Try.zeroValue4,
  t5 := Try.underlying5,
  a5 := Try.isAgg5,
  z5 := Try.sizeOf5,
  v5 := Try.zeroValue5,
  t9 := Try.underlying9,
  a9 := Try.isAgg9,
  z9 := Try.sizeOf9,
  v9 := Try.zeroValue9,
  t22 := Try.underlying160,
  a22 := Try.isAgg160,
  z22 := Try.sizeOf160,
  v22 := Try.zeroValue160,
  t23 := Try.underlying160,
  a23 := Try.isAgg160,
  z23 := Try.sizeOf160,
  v23 := Try.zeroValue160,
  t25 := Try.underlying3,
  a25 := Try.isAgg3,
  z25 := Try.sizeOf3,
  v25 := Try.zeroValue3,
  t32 := Try.underlying158,
  a32 := Try.isAgg158,
  z32 := Try.sizeOf158,
  v32 := Try.zeroValue158,
  t35 := Try.underlying216,
  a35 := Try.isAgg216,
  z35 := Try.sizeOf216,
  v35 := Try.zeroValue216,
  t36 := Try.underlying217,
  a36 := Try.isAgg217,
  z36 := Try.sizeOf217,
  v36 := Try.zeroValue217,
  t41 := Try.underlying80,
  a41 := Try.isAgg80,
  z41 := Try.sizeOf80,
  v41 := Try.zeroValue80,
  t44 := Try.underlying224,
  a44 := Try.isAgg224,
  z44 := Try.sizeOf224,
  v44 := Try.zeroValue224,
  t46 := Try.underlying226,
  a46 := Try.isAgg226,
  z46 := Try.sizeOf226,
  v46 := Try.zeroValue226,
  t53 := Try.underlying228,
  a53 := Try.isAgg228,
  z53 := Try.sizeOf228,
  v53 := Try.zeroValue228,
  t57 := Try.underlying232,
  a57 := Try.isAgg232,
  z57 := Try.sizeOf232,
  v57 := Try.zeroValue232,
  t63 := Try.underlying234,
  a63 := Try.isAgg234,
  z63 := Try.sizeOf234,
  v63 := Try.zeroValue234,
  t64 := Try.underlying235,
  a64 := Try.isAgg235,
  z64 := Try.sizeOf235,
  v64 := Try.zeroValue235 }

theorem heap_sorted_at {w : World} {g o n : Nat} {os : Array Obj} {cur : Array Value} {e : TypeId} {fr : Nat × Nat} (d : Array Int) (hb : w.heap[g]? = some (.cells cur e fr)) :
    (grow (putRow (Value.int .i64) (Sort.ahead w n) g o d) os).heap[g]? = some (.cells (putCells (Value.int .i64) o d cur) e fr) := by
  have hg : g < w.heap.size := (Array.getElem?_eq_some_iff.1 hb).1
  rw [heap_grow_old _ _ (by simpa using hg)]
  simp [putRow, mapBlock, Sort.ahead, Array.getElem?_modify, hb, onCells]
theorem grownBy_sorted_at {w : World} {g o n : Nat} {os : Array Obj} (d : Array Int) : w.grownBy (grow (putRow (Value.int .i64) (Sort.ahead w n) g o d) os) (some g) := by
  refine ⟨rfl, rfl, rfl, by simp, fun k hk hne => ?_⟩
  rw [heap_grow_old _ _ (by simpa using hk)]
  have : g ≠ k := fun e => hne (by rw [e])
  simp [putRow, mapBlock, Sort.ahead, Array.getElem?_modify, this]
theorem putCells_at (o : Nat) (cur : Array Value) (ts : List Int) (h : o + ts.length ≤ cur.size) : ((putCells (Value.int .i64) o ts.toArray cur).toList.drop o).take ts.length = ts.map (Value.int .i64) := by
  apply List.ext_getElem?
  intro j
  by_cases hj : j < ts.length
  · rw [List.getElem?_take_of_lt hj, List.getElem?_drop, Array.getElem?_toList]
    simp [putCells, hj, show o + j < cur.size by omega]
  · rw [List.getElem?_take_eq_none (by omega), List.getElem?_eq_none (by simp; omega)]
/-- Sorted, in place. -/
def sortI (l : List Int) : List Int := l.mergeSort fun x y => decide (x ≤ y)
theorem sortI_perm (l : List Int) : (sortI l).Perm l := List.mergeSort_perm _ _
theorem sortI_len (l : List Int) : (sortI l).length = l.length := (sortI_perm l).length_eq
theorem sortInts_any (l : List Int) (v : Value) (B : Nat) (w : World) (h : Own w B 3 1 v l.length (l.map (Value.int .i64))) (hl : l.length < 4611686018427387904) :
    Calls Try.prog 121 #[v] w fun e w' => e = .returned (.tuple #[]) ∧ Own w' B 3 1 v (sortI l).length ((sortI l).map (Value.int .i64)) ∧ w.grownBy w' v.ownBlock := by
  have hlen := sortI_len l
  have hx := h
  rcases h.2 with ⟨rfl, h0⟩ | ⟨g, o, cap, cur, rfl, hb, hg, h1, h2, h3, h4⟩
  · obtain rfl : l = [] := List.length_eq_zero_iff.1 h0
    have hc := AnyM.slices_Sort_int_none sortLay none 0 w
    change Calls Try.prog 121 #[.slice none 0 0] w _ at hc
    refine hc.mono ?_
    rintro e w' ⟨rfl, rfl⟩
    exact ⟨rfl, by simpa [sortI] using hx, grownBy_refl _ _⟩
  · have hH : Holds (Value.int .i64) w g o l.toArray := by
      intro j hj
      have hj' : j < l.length := by simpa using hj
      refine ⟨?_, hx.frozen rfl _⟩
      have := hx.cell rfl (j := j) (u := .int .i64 l[j]) (by simp [hj'])
      rw [this]
      simp [hj']
    have hc := AnyM.slices_Sort_int sortLay g o cap l w hH (Array.getElem?_eq_some_iff.1 hg).1 hl
    change Calls Try.prog 121 #[.slice (some ⟨g, o, none⟩) l.length cap] w _ at hc
    refine hc.mono ?_
    rintro e w' ⟨rfl, n, os, rfl⟩
    refine ⟨rfl, ⟨by simp, .inr ⟨g, o, cap, _, by rw [hlen], hb, heap_sorted_at _ hg, by omega, h2, ?_, ?_⟩⟩, grownBy_sorted_at _⟩
    · have : (putCells (Value.int .i64) o (sortI l).toArray cur).size = cur.size := by simp [putCells]
      show o + cap * 1 ≤ (putCells (Value.int .i64) o (sortI l).toArray cur).size
      omega
    · rw [Nat.mul_one]
      exact putCells_at o cur (sortI l) (by omega)
end Go.Proofs.Ythefofclbepkoaa

/- Contract: graph.Ends. -/
namespace Go.Proofs.Ythefofclbepkoaa
open Go Go.RowKit

/-- Ends of ties, in order. -/
def endsS (g : Grf) (id : Int) (bond : ByteArray) (back : Bool) : List Int := sortI (endsL g.ties id bond back)
theorem endsL_len (ts : List Tie) (id : Int) (bond : ByteArray) (back : Bool) : (endsL ts id bond back).length ≤ ts.length := by
  unfold endsL; rw [List.length_map]; exact List.length_filter_le _ _
theorem endsL_take {ts : List Tie} {k : Nat} {t : Tie} (ht : ts[k]? = some t) (id : Int) (bond : ByteArray) (back : Bool) :
    endsL (ts.take (k + 1)) id bond back = endsL (ts.take k) id bond back ++ (if endT back bond id t then [endX back t] else []) := by
  unfold endsL
  rw [List.take_add_one, ht, List.filter_append, List.map_append]
  congr 1
  show ((([t] : List Tie).filter (endT back bond id)).map (endX back)) = _
  rw [List.filter_cons]
  split <;> rfl
theorem endX_i64 {t : Tie} (h : t.ok) (back : Bool) : I64 (endX back t) := by
  unfold endX
  cases back
  · exact h.2.2
  · exact h.2.1
theorem eint_info : (Try.prog.info? 3).map (fun i => (i.zero, i.size, i.bytes)) = some (some (.int .i64 0), 1, 8) := by kernel_rfl
set_option maxRecDepth 100000 in
set_option maxHeartbeats 8000000 in
theorem ends_any (g : Grf) (id : Int) (bond : ByteArray) (back : Bool) (vn vt : Value) (w : World) (hG : GrfR w vn vt g) (hl : g.ties.length ≤ 1000) :
    Calls Try.prog 99 #[.agg #[vn, vt], .int .i64 id, .string bond, .bool back] w fun e w' => ∃ u, e = .returned u ∧ Own w' w.heap.size 3 1 u (endsS g id bond back).length ((endsS g id bond back).map (Value.int .i64)) ∧ (∀ x ∈ endsS g id bond back, I64 x) ∧ Below w.heap.size w w' := by
  obtain ⟨i0, ei, ez, ez1, ez2⟩ := info_parts eint_info
  obtain ⟨An, cn, rfl, _, _⟩ := hG.1.form
  obtain ⟨At, ct, rfl, _, _⟩ := hG.2.form
  have hb0 : Below w.heap.size w (w.alloc (.cells #[.slice An g.nodes.length cn, .slice At g.ties.length ct] 43)) := (Below.refl _ _).alloc (Nat.le_refl _) _
  obtain ⟨x0, x1⟩ := cell_box2 w (.slice An g.nodes.length cn) (.slice At g.ties.length ct) 43
  generalize hW0 : w.alloc (.cells #[.slice An g.nodes.length cn, .slice At g.ties.length ct] 43) = W0 at *
  have HG := Lib.hid (hG.below hb0)
  have hw0 := hb0.size
  have HE : Hid (endsS g id bond back = sortI (endsL g.ties id bond back)) := rfl
  clear hG
  cases back with
  | true =>
    go_enter Try.func99, Try.ntmps99
    go_wp2_with fail
    clear hW0
    go_loopw [9, 15] (fun v i wr => W0.heap.size ≤ wr.heap.size ∧ ∃ k : Nat, k ≤ g.ties.length ∧ i = .int .i64 k ∧ Below W0.heap.size W0 wr ∧ Own wr W0.heap.size 3 1 v (endsL (g.ties.take k) id bond true).length ((endsL (g.ties.take k) id bond true).map (Value.int .i64))) (fun _ i _ => g.ties.length - (intOf i).toNat)
    case atStart => exact ⟨Nat.le_refl _, 0, Nat.zero_le _, rfl, Below.refl _ _, Own.nil _ _ _ _⟩
    case round =>
      -- true: back; t.dst, t.src: what stands in the box
      obtain ⟨hsz, k, hk, rfl, hbr, hown⟩ := hrel
      have y1 := cell_below hbr x1
      have hBr := hb0.trans (hbr.mono hw0)
      obtain ⟨acc, hacc⟩ : ∃ acc, endsL (g.ties.take k) id bond true = acc := ⟨_, rfl⟩
      have hal : acc.length ≤ k := by
        rw [← hacc]
        exact Nat.le_trans (endsL_len _ _ _ _) (by rw [List.length_take]; omega)
      by_cases hlt : k < g.ties.length
      · obtain ⟨t, ht⟩ : ∃ t, g.ties[k]? = some t := ⟨_, List.getElem?_eq_getElem hlt⟩
        have hlt' : (k : Int) < (g.ties.length : Int) := by omega
        obtain ⟨b, o, rfl, htok, z0, z1, z2⟩ := tie_at (HG.out.below hbr).2 ht
        have HS : Hid (endsL (g.ties.take (k + 1)) id bond true = acc ++ if decide (t.bond = bond) && (t.dst == id) then [t.src] else []) := by
          have := endsL_take ht id bond true
          rw [hacc] at this
          exact this
        have HX : Hid (I64 (t.src)) := endX_i64 htok true
        have hbx : Below wr.heap.size wr (wr.alloc (.cells #[.string t.bond, .int .i64 (t.dst), .int .i64 (t.src)] 50)) := (Below.refl _ _).alloc (Nat.le_refl _) _
        obtain ⟨b0, b1, b2⟩ := cell_box3 wr (.string t.bond) (.int .i64 (t.dst)) (.int .i64 (t.src)) 50
        rw [hacc] at hown
        have hn1 : W0.heap.size ≤ (wr.alloc (.cells #[.string t.bond, .int .i64 (t.dst), .int .i64 (t.src)] 50)).heap.size := by simp; omega
        have HN1 := Lib.hid hn1
        clear ht hacc hn1
        go_upto_region 7 with fail
        generalize wr.alloc (.cells #[.string t.bond, .int .i64 (t.dst), .int .i64 (t.src)] 50) = W1 at *
        have hB1 := hbr.trans (hbx.mono hsz)
        have ho1 := hown.below hbx
        by_cases hq : t.bond = bond
        · have hqb : (t.bond.toList == bond.toList) = true := by rw [hq]; simp
          have hqd : decide (t.bond.toList = bond.toList) = true := by rw [hq]; simp
          have hqe : t.bond.toList = bond.toList := by rw [hq]
          have hqf : decide (t.bond = bond) = true := decide_eq_true hq
          by_cases hp : t.dst = id
          · have HS2 : Hid (endsL (g.ties.take (k + 1)) id bond true = acc ++ [t.src]) := by
              unfold Hid
              rw [HS.out, hqf, hp]
              simp
            have hp' : decide (t.dst = id) = true := decide_eq_true hp
            have hp'' : (t.dst == id) = true := by rw [hp]; simp
            clear hq hqf HS z0 z1 z2
            obtain ⟨Ap, cp, rfl, _, _⟩ := hown.form
            have ho2 := ho1.alloc (.cells #[.int .i64 (t.src)] 3)
            go_wp2_with (at_builtin; refine wpList_append_q _ rfl (.tmp 36) (.tmp 39) _ rfl W0.heap.size 3 i0 (.int .i64 0) 1 8 Try.underlying160 ei ez ez1 ez2 rfl (by decide) (.slice Ap acc.length cp) acc.length (acc.map (Value.int .i64)) rfl ho2 (some ⟨W1.heap.size, 0, none⟩) 1 1 [.int .i64 (t.src)] rfl rfl (fun _ => ⟨_, rfl, cell_one_new W1 (.int .i64 (t.src)) 3⟩) (by simp [Value.oneCell']) (by unfold maxLen; omega) (by omega) (by have := HN1.out; simp; omega) ?_; intro v7 w7 hown7 hg7 hat7)
            have hb7 : Below W0.heap.size W0 w7 := (hB1.alloc HN1.out _).grown hg7 (by have := HN1.out; simp; omega) (fun kk hkk => (ho1.lt kk hkk).1)
            have ho7 : Own w7 W0.heap.size 3 1 v7 (acc ++ [t.src]).length ((acc ++ [t.src]).map (Value.int .i64)) := by simpa using hown7
            have hs7 := hb7.size
            clear hg7 hat7 hown7
            go_roundw
            case rel => exact ⟨hs7, k + 1, by omega, by go_num, hb7, by rw [HS2.out]; exact ho7⟩
            case measure => simp [intOf]; omega
          · have HS2 : Hid (endsL (g.ties.take (k + 1)) id bond true = acc) := by
              unfold Hid
              rw [HS.out, hqf]
              simp [hp]
            have hp' : decide (t.dst = id) = false := decide_eq_false hp
            have hp'' : (t.dst == id) = false := by simp [hp]
            clear hq hqf HS z0 z1 z2
            have hs7 := hB1.size
            go_wp2_with fail
            go_roundw
            case rel => exact ⟨hs7, k + 1, by omega, by go_num, hB1, by rw [HS2.out]; exact ho1⟩
            case measure => simp [intOf]; omega
        · have hqb : (t.bond.toList == bond.toList) = false := by rw [bytes_beq]; exact decide_eq_false hq
          have hqc : ¬ t.bond.toList = bond.toList := by rw [bytes_eq]; exact hq
          have HS2 : Hid (endsL (g.ties.take (k + 1)) id bond true = acc) := by
            unfold Hid
            rw [HS.out, decide_eq_false hq]
            simp
          clear hq HS z0 z1 z2
          have hs7 := hB1.size
          go_wp2_with fail
          go_roundw
          case rel => exact ⟨hs7, k + 1, by omega, by go_num, hB1, by rw [HS2.out]; exact ho1⟩
          case measure => simp [intOf]; omega
      · obtain rfl : k = g.ties.length := by omega
        rw [List.take_length] at hacc
        have HAL : Hid (∀ x ∈ acc, I64 x) := fun x hx => by
          rw [← hacc] at hx
          unfold endsL at hx
          obtain ⟨t, ht, rfl⟩ := List.mem_map.1 hx
          obtain ⟨i, hi⟩ := List.mem_iff_getElem?.1 (List.mem_filter.1 ht).1
          obtain ⟨b, o, hv, htok, _⟩ := tie_at HG.out.2 hi
          exact endX_i64 htok _
        have HE2 : Hid (endsS g id bond true = sortI acc) := by unfold Hid; rw [HE.out, hacc]
        rw [List.take_length, hacc] at hown
        have hst := sortInts_any acc _ _ _ hown (by omega)
        obtain ⟨Ap, cp, rfl, _, _⟩ := hown.form
        clear hacc
        go_wp2_with fail
        refine hst.mono ?_
        clear hst
        rintro e w5 ⟨rfl, ho5, hg5⟩
        have hb5 : Below W0.heap.size W0 w5 := hbr.grown hg5 (by omega) (fun kk hkk => (hown.lt kk hkk).1)
        clear hown hg5
        go_wp2_with fail
        go_ret
        refine ⟨_, rfl, ?_, ?_, hb0.trans (hb5.mono hw0)⟩
        · rw [HE2.out]
          rw [sortI_len] at ho5 ⊢
          exact ho5.mono hw0
        · rw [HE2.out]
          exact fun x hx => HAL.out x ((sortI_perm acc).mem_iff.1 hx)
  | false =>
    go_enter Try.func99, Try.ntmps99
    go_wp2_with fail
    clear hW0
    go_loopw [9, 15] (fun v i wr => W0.heap.size ≤ wr.heap.size ∧ ∃ k : Nat, k ≤ g.ties.length ∧ i = .int .i64 k ∧ Below W0.heap.size W0 wr ∧ Own wr W0.heap.size 3 1 v (endsL (g.ties.take k) id bond false).length ((endsL (g.ties.take k) id bond false).map (Value.int .i64))) (fun _ i _ => g.ties.length - (intOf i).toNat)
    case atStart => exact ⟨Nat.le_refl _, 0, Nat.zero_le _, rfl, Below.refl _ _, Own.nil _ _ _ _⟩
    case round =>
      -- false: back; t.src, t.dst: what stands in the box
      obtain ⟨hsz, k, hk, rfl, hbr, hown⟩ := hrel
      have y1 := cell_below hbr x1
      have hBr := hb0.trans (hbr.mono hw0)
      obtain ⟨acc, hacc⟩ : ∃ acc, endsL (g.ties.take k) id bond false = acc := ⟨_, rfl⟩
      have hal : acc.length ≤ k := by
        rw [← hacc]
        exact Nat.le_trans (endsL_len _ _ _ _) (by rw [List.length_take]; omega)
      by_cases hlt : k < g.ties.length
      · obtain ⟨t, ht⟩ : ∃ t, g.ties[k]? = some t := ⟨_, List.getElem?_eq_getElem hlt⟩
        have hlt' : (k : Int) < (g.ties.length : Int) := by omega
        obtain ⟨b, o, rfl, htok, z0, z1, z2⟩ := tie_at (HG.out.below hbr).2 ht
        have HS : Hid (endsL (g.ties.take (k + 1)) id bond false = acc ++ if decide (t.bond = bond) && (t.src == id) then [t.dst] else []) := by
          have := endsL_take ht id bond false
          rw [hacc] at this
          exact this
        have HX : Hid (I64 (t.dst)) := endX_i64 htok false
        have hbx : Below wr.heap.size wr (wr.alloc (.cells #[.string t.bond, .int .i64 (t.src), .int .i64 (t.dst)] 50)) := (Below.refl _ _).alloc (Nat.le_refl _) _
        obtain ⟨b0, b1, b2⟩ := cell_box3 wr (.string t.bond) (.int .i64 (t.src)) (.int .i64 (t.dst)) 50
        rw [hacc] at hown
        have hn1 : W0.heap.size ≤ (wr.alloc (.cells #[.string t.bond, .int .i64 (t.src), .int .i64 (t.dst)] 50)).heap.size := by simp; omega
        have HN1 := Lib.hid hn1
        clear ht hacc hn1
        go_upto_region 7 with fail
        generalize wr.alloc (.cells #[.string t.bond, .int .i64 (t.src), .int .i64 (t.dst)] 50) = W1 at *
        have hB1 := hbr.trans (hbx.mono hsz)
        have ho1 := hown.below hbx
        by_cases hq : t.bond = bond
        · have hqb : (t.bond.toList == bond.toList) = true := by rw [hq]; simp
          have hqd : decide (t.bond.toList = bond.toList) = true := by rw [hq]; simp
          have hqe : t.bond.toList = bond.toList := by rw [hq]
          have hqf : decide (t.bond = bond) = true := decide_eq_true hq
          by_cases hp : t.src = id
          · have HS2 : Hid (endsL (g.ties.take (k + 1)) id bond false = acc ++ [t.dst]) := by
              unfold Hid
              rw [HS.out, hqf, hp]
              simp
            have hp' : decide (t.src = id) = true := decide_eq_true hp
            have hp'' : (t.src == id) = true := by rw [hp]; simp
            clear hq hqf HS z0 z1 z2
            obtain ⟨Ap, cp, rfl, _, _⟩ := hown.form
            have ho2 := ho1.alloc (.cells #[.int .i64 (t.dst)] 3)
            go_wp2_with (at_builtin; refine wpList_append_q _ rfl (.tmp 36) (.tmp 39) _ rfl W0.heap.size 3 i0 (.int .i64 0) 1 8 Try.underlying160 ei ez ez1 ez2 rfl (by decide) (.slice Ap acc.length cp) acc.length (acc.map (Value.int .i64)) rfl ho2 (some ⟨W1.heap.size, 0, none⟩) 1 1 [.int .i64 (t.dst)] rfl rfl (fun _ => ⟨_, rfl, cell_one_new W1 (.int .i64 (t.dst)) 3⟩) (by simp [Value.oneCell']) (by unfold maxLen; omega) (by omega) (by have := HN1.out; simp; omega) ?_; intro v7 w7 hown7 hg7 hat7)
            have hb7 : Below W0.heap.size W0 w7 := (hB1.alloc HN1.out _).grown hg7 (by have := HN1.out; simp; omega) (fun kk hkk => (ho1.lt kk hkk).1)
            have ho7 : Own w7 W0.heap.size 3 1 v7 (acc ++ [t.dst]).length ((acc ++ [t.dst]).map (Value.int .i64)) := by simpa using hown7
            have hs7 := hb7.size
            clear hg7 hat7 hown7
            go_roundw
            case rel => exact ⟨hs7, k + 1, by omega, by go_num, hb7, by rw [HS2.out]; exact ho7⟩
            case measure => simp [intOf]; omega
          · have HS2 : Hid (endsL (g.ties.take (k + 1)) id bond false = acc) := by
              unfold Hid
              rw [HS.out, hqf]
              simp [hp]
            have hp' : decide (t.src = id) = false := decide_eq_false hp
            have hp'' : (t.src == id) = false := by simp [hp]
            clear hq hqf HS z0 z1 z2
            have hs7 := hB1.size
            go_wp2_with fail
            go_roundw
            case rel => exact ⟨hs7, k + 1, by omega, by go_num, hB1, by rw [HS2.out]; exact ho1⟩
            case measure => simp [intOf]; omega
        · have hqb : (t.bond.toList == bond.toList) = false := by rw [bytes_beq]; exact decide_eq_false hq
          have hqc : ¬ t.bond.toList = bond.toList := by rw [bytes_eq]; exact hq
          have HS2 : Hid (endsL (g.ties.take (k + 1)) id bond false = acc) := by
            unfold Hid
            rw [HS.out, decide_eq_false hq]
            simp
          clear hq HS z0 z1 z2
          have hs7 := hB1.size
          go_wp2_with fail
          go_roundw
          case rel => exact ⟨hs7, k + 1, by omega, by go_num, hB1, by rw [HS2.out]; exact ho1⟩
          case measure => simp [intOf]; omega
      · obtain rfl : k = g.ties.length := by omega
        rw [List.take_length] at hacc
        have HAL : Hid (∀ x ∈ acc, I64 x) := fun x hx => by
          rw [← hacc] at hx
          unfold endsL at hx
          obtain ⟨t, ht, rfl⟩ := List.mem_map.1 hx
          obtain ⟨i, hi⟩ := List.mem_iff_getElem?.1 (List.mem_filter.1 ht).1
          obtain ⟨b, o, hv, htok, _⟩ := tie_at HG.out.2 hi
          exact endX_i64 htok _
        have HE2 : Hid (endsS g id bond false = sortI acc) := by unfold Hid; rw [HE.out, hacc]
        rw [List.take_length, hacc] at hown
        have hst := sortInts_any acc _ _ _ hown (by omega)
        obtain ⟨Ap, cp, rfl, _, _⟩ := hown.form
        clear hacc
        go_wp2_with fail
        refine hst.mono ?_
        clear hst
        rintro e w5 ⟨rfl, ho5, hg5⟩
        have hb5 : Below W0.heap.size W0 w5 := hbr.grown hg5 (by omega) (fun kk hkk => (hown.lt kk hkk).1)
        clear hown hg5
        go_wp2_with fail
        go_ret
        refine ⟨_, rfl, ?_, ?_, hb0.trans (hb5.mono hw0)⟩
        · rw [HE2.out]
          rw [sortI_len] at ho5 ⊢
          exact ho5.mono hw0
        · rw [HE2.out]
          exact fun x hx => HAL.out x ((sortI_perm acc).mem_iff.1 hx)
end Go.Proofs.Ythefofclbepkoaa

/- Plain: all faults of a graph, by a schema. No condition. -/
namespace Go.Proofs.Ythefofclbepkoaa
open Go Go.RowKit

/-- Whether a field is a key that a node has, of its type; which one. -/
def keyOf (n : Nod) (f : Fld) : Option Key := match n.props[rpos n.props f.name]? with
  | some p => if f.key = true ∧ rhas n.props f.name = true ∧ p.v.ty = f.ty then some ⟨f.name, p.v⟩ else none
  | none => none
def keyStep (n : Nod) (acc : List Flt × List Key) (f : Fld) : List Flt × List Key := match keyOf n f with
  | some k => if k ∈ acc.2 then (acc.1 ++ [⟨4, n.id, f.name⟩], acc.2) else (acc.1, acc.2 ++ [k])
  | none => acc
def keysF (n : Nod) (fields : List Fld) (S : List Key) : List Flt × List Key := fields.foldl (keyStep n) ([], S)
def manyF (g : Grf) (n : Nod) (b : Bnd) : Int := ((endsS g n.id b.name false).length : Int)
def bondF (s : Scm) (g : Grf) (n : Nod) (b : Bnd) : List Flt :=
  if isKinB s.kinds n.kind b.src = true then
    (if manyF g n b < b.mn then [⟨7, n.id, b.name⟩] else []) ++ (if 0 ≤ b.mx ∧ b.mx < manyF g n b then [⟨8, n.id, b.name⟩] else [])
  else []
def nodeF (s : Scm) (g : Grf) (S : List Key) (n : Nod) : List Flt × List Key :=
  if kFind s.kinds n.kind < 0 then (aloneF s n, S)
  else (aloneF s n ++ (keysF n (kfl s n.kind) S).1 ++ s.bonds.flatMap (bondF s g n), (keysF n (kfl s n.kind) S).2)
def nodesF (s : Scm) (g : Grf) (l : List Nod) : List Flt × List Key := l.foldl (fun acc n => (acc.1 ++ (nodeF s g acc.2 n).1, (nodeF s g acc.2 n).2)) ([], [])
def tieF (s : Scm) (g : Grf) (t : Tie) : List Flt := match s.bonds[(bFind s.bonds t.bond).toNat]? with
  | some b => if bFind s.bonds t.bond < 0 then [⟨5, t.src, t.bond⟩] else if endB s g t.src b.src = true ∧ endB s g t.dst b.dst = true then [] else [⟨6, t.src, t.bond⟩]
  | none => [⟨5, t.src, t.bond⟩]
/-- All faults. -/
def ofF (s : Scm) (g : Grf) : List Flt := (nodesF s g g.nodes).1 ++ g.ties.flatMap (tieF s g)
theorem nodesF_snoc (s : Scm) (g : Grf) (l : List Nod) (n : Nod) : nodesF s g (l ++ [n]) = ((nodesF s g l).1 ++ (nodeF s g (nodesF s g l).2 n).1, (nodeF s g (nodesF s g l).2 n).2) := by simp [nodesF]
theorem keysF_snoc (n : Nod) (l : List Fld) (f : Fld) (S : List Key) : keysF n (l ++ [f]) S = keyStep n (keysF n l S) f := by simp [keysF]
theorem keyStep_len (n : Nod) (acc : List Flt × List Key) (f : Fld) : (keyStep n acc f).1.length ≤ acc.1.length + 1 := by
  unfold keyStep
  split
  · split <;> simp
  · omega
theorem keysFold_len (n : Nod) : ∀ (l : List Fld) (acc : List Flt × List Key), (l.foldl (keyStep n) acc).1.length ≤ acc.1.length + l.length
  | [], _ => by simp
  | f :: r, acc => by
    have h1 := keysFold_len n r (keyStep n acc f)
    have h2 := keyStep_len n acc f
    simp only [List.foldl_cons, List.length_cons]
    omega
theorem keysF_len (n : Nod) (l : List Fld) (S : List Key) : (keysF n l S).1.length ≤ l.length := by
  have h := keysFold_len n l ([], S)
  simpa [keysF] using h
theorem aloneF_len (s : Scm) (n : Nod) : (aloneF s n).length ≤ n.props.length + (kfl s n.kind).length + 1 := by
  unfold aloneF recF
  split
  · simp
  · have h1 := List.length_filter_le (badF (kfl s n.kind)) n.props
    have h2 := List.length_filter_le (lackF n) (kfl s n.kind)
    simp only [List.length_append, List.length_map]
    omega
end Go.Proofs.Ythefofclbepkoaa

/- Plain: a graph that conforms: each node is right by itself. No condition. -/
namespace Go.Proofs.Ythefofclbepkoaa
open Go Go.RowKit

theorem nodeF_alone {s : Scm} {g : Grf} {S : List Key} {n : Nod} (h : (nodeF s g S n).1 = []) : aloneF s n = [] := by
  unfold nodeF at h
  split at h
  · exact h
  · have h1 := (List.append_eq_nil_iff.1 h).1
    exact (List.append_eq_nil_iff.1 h1).1
theorem nodesF_aux {s : Scm} {g : Grf} : ∀ (l : List Nod) (acc : List Flt × List Key), (l.foldl (fun acc n => (acc.1 ++ (nodeF s g acc.2 n).1, (nodeF s g acc.2 n).2)) acc).1 = [] → acc.1 = [] ∧ ∀ n ∈ l, aloneF s n = []
  | [], _, h => ⟨h, by simp⟩
  | n :: r, acc, h => by
    obtain ⟨h1, h2⟩ := nodesF_aux r _ h
    obtain ⟨a1, a2⟩ := List.append_eq_nil_iff.1 h1
    refine ⟨a1, fun m hm => ?_⟩
    rcases List.mem_cons.1 hm with rfl | hm
    · exact nodeF_alone a2
    · exact h2 m hm
theorem ofF_alone {s : Scm} {g : Grf} (h : ofF s g = []) : ∀ n ∈ g.nodes, aloneF s n = [] := by
  unfold ofF at h
  exact (nodesF_aux g.nodes ([], []) (List.append_eq_nil_iff.1 h).1).2
theorem ofF_empty (s : Scm) : ofF s ⟨[], []⟩ = [] := rfl
/-- All that nodes have that are wrong by themselves. -/
def sumA (s : Scm) (l : List Nod) : Nat := (l.map fun n => (aloneF s n).length).sum
theorem sumA_snoc {s : Scm} {l : List Nod} {k : Nat} {n : Nod} (h : l[k]? = some n) : sumA s (l.take (k + 1)) = sumA s (l.take k) + (aloneF s n).length := by
  unfold sumA
  rw [take_snocF h]
  simp
theorem sumA_zero {s : Scm} {l : List Nod} (h : ∀ n ∈ l, aloneF s n = []) : sumA s l = 0 := by
  unfold sumA
  induction l with
  | nil => rfl
  | cons n r ih =>
    have h1 := h n (by simp)
    have h2 := ih (fun m hm => h m (by simp [hm]))
    simp [h1, h2]
theorem sumA_le {s : Scm} {b : Nat} : ∀ {l : List Nod}, (∀ n ∈ l, (aloneF s n).length ≤ b) → sumA s l ≤ l.length * b
  | [], _ => by simp [sumA]
  | n :: r, h => by
    have h1 := h n (by simp)
    have h2 := sumA_le (l := r) (fun m hm => h m (by simp [hm]))
    unfold sumA at h2 ⊢
    simp only [List.map_cons, List.sum_cons, List.length_cons, Nat.succ_mul]
    omega
/-- A schema that is right: each kind's fields are few. -/
theorem kfl_len {s : Scm} (h : Right s.kinds) (nm : ByteArray) : (kfl s nm).length ≤ 8 := by
  unfold kfl
  split
  · simp
  · rename_i hk
    obtain ⟨i, k, _, hk2, hk3, _⟩ := kFind_pos (by omega : 0 ≤ kFind s.kinds nm)
    obtain ⟨fs, h1, h2⟩ := h.fields (List.mem_of_getElem? hk2)
    rw [hk3] at h1
    rw [h1]
    exact h2
theorem flat_le {D E : Type} {f : D → List E} {c : Nat} : ∀ {l : List D}, (∀ x ∈ l, (f x).length ≤ c) → (l.flatMap f).length ≤ l.length * c
  | [], _ => by simp
  | x :: r, h => by
    have h1 := h x (by simp)
    have h2 := flat_le (l := r) (fun y hy => h y (by simp [hy]))
    simp only [List.flatMap_cons, List.length_append, List.length_cons, Nat.succ_mul]
    omega
theorem bondF_len (s : Scm) (g : Grf) (n : Nod) (b : Bnd) : (bondF s g n b).length ≤ 2 := by
  unfold bondF
  split
  · rw [List.length_append]
    split <;> split <;> simp
  · simp
theorem nodeF_len {s : Scm} {g : Grf} {S : List Key} {n : Nod} (hp : n.props.length ≤ 8) (hk : (kfl s n.kind).length ≤ 8) (hb : s.bonds.length ≤ 12) : (nodeF s g S n).1.length ≤ 60 := by
  have h1 := aloneF_len s n
  have h2 := keysF_len n (kfl s n.kind) S
  have h3 := flat_le (l := s.bonds) (f := bondF s g n) (c := 2) (fun b _ => bondF_len s g n b)
  unfold nodeF
  split
  · show (aloneF s n).length ≤ 60
    omega
  · simp only [List.length_append]
    omega
theorem nodesF_len {s : Scm} {g : Grf} (hk : ∀ nm, (kfl s nm).length ≤ 8) (hb : s.bonds.length ≤ 12) : ∀ (l : List Nod) (acc : List Flt × List Key), (∀ n ∈ l, n.props.length ≤ 8) → (l.foldl (fun acc n => (acc.1 ++ (nodeF s g acc.2 n).1, (nodeF s g acc.2 n).2)) acc).1.length ≤ acc.1.length + l.length * 60
  | [], _, _ => by simp
  | n :: r, acc, h => by
    have h1 := nodesF_len (g := g) hk hb r (acc.1 ++ (nodeF s g acc.2 n).1, (nodeF s g acc.2 n).2) (fun m hm => h m (by simp [hm]))
    have h2 := nodeF_len (g := g) (S := acc.2) (h n (by simp)) (hk n.kind) hb
    simp only [List.length_append] at h1
    simp only [List.foldl_cons, List.length_cons, Nat.succ_mul]
    omega
theorem nodesF_le {s : Scm} {g : Grf} (hk : ∀ nm, (kfl s nm).length ≤ 8) (hb : s.bonds.length ≤ 12) (h : ∀ n ∈ g.nodes, n.props.length ≤ 8) (k : Nat) : (nodesF s g (g.nodes.take k)).1.length ≤ k * 60 := by
  have h1 := nodesF_len (g := g) hk hb (g.nodes.take k) ([], []) (fun n hn => h n (List.mem_of_mem_take hn))
  have h2 : (g.nodes.take k).length ≤ k := by rw [List.length_take]; omega
  have h3 : (nodesF s g (g.nodes.take k)).1.length ≤ 0 + (g.nodes.take k).length * 60 := h1
  have h4 : (g.nodes.take k).length * 60 ≤ k * 60 := Nat.mul_le_mul_right _ h2
  omega
theorem tieF_len (s : Scm) (g : Grf) (t : Tie) : (tieF s g t).length ≤ 1 := by
  unfold tieF
  split
  · split
    · simp
    · split <;> simp
  · simp
theorem tieF_le (s : Scm) (g : Grf) (k : Nat) : ((g.ties.take k).flatMap (tieF s g)).length ≤ k := by
  have h1 := flat_le (l := g.ties.take k) (f := tieF s g) (c := 1) (fun t _ => tieF_len s g t)
  have h2 : (g.ties.take k).length ≤ k := by rw [List.length_take]; omega
  omega
/-- The fields that are keys. -/
theorem keyOf_none {n : Nod} {f : Fld} (h : f.key = false ∨ rhas n.props f.name = false) : keyOf n f = none := by
  unfold keyOf
  split
  · rw [if_neg]
    rintro ⟨h1, h2, _⟩
    rcases h with h | h
    · rw [h] at h1; cases h1
    · rw [h] at h2; cases h2
  · rfl
theorem keyOf_at {n : Nod} {f : Fld} {p : Prp} (h1 : f.key = true) (h2 : rhas n.props f.name = true) (hp : n.props[rpos n.props f.name]? = some p) : keyOf n f = if p.v.ty = f.ty then some ⟨f.name, p.v⟩ else none := by
  unfold keyOf
  rw [hp]
  simp [h1, h2]
end Go.Proofs.Ythefofclbepkoaa
