/- Parts: SortI, EndA, ChkP, ChkQ, DwK. -/
import Derived.Test.YtpfpgmfdcafpnaaGreatDoorMg01
import Derived.Test.YtpfpgmfdcafpnaaGreatDoorRows
import Derived.Shelf.SortM.Plain
import Derived.Shelf.SortM.SortNone
import Derived.Ground.SlgmProg
import Derived.Test.YtpfpgmfdcafpnaaGreatDoorMg16
import Derived.Test.YtpfpgmfdcafpnaaGreatDoorMg07
import Derived.Test.YtpfpgmfdcafpnaaGreatDoorMg15
import Derived.Test.YtpfpgmfdcafpnaaGreatDoorMg12
import Derived.Test.YtpfpgmfdcafpnaaGreatDoorMg05
/- Contract: slices.Sort at whole numbers, at a row of the call's own. No condition. -/
namespace Go.Proofs.YtpfpgmfdcafpnaaGreatDoor
open Go Go.RowKit Go.Sort Go.Proofs

-- written by sortlay.py for the seat YtpfpgmfdcafpnaaGreatDoor
def sortLay_ren : Go.Shelf.Ren := ⟨fun | 5 => 87 | 8 => 104 | 7 => 103 | 19 => 119 | 20 => 120 | 10 => 110 | 11 => 111 | 12 => 112 | 13 => 113 | 14 => 114 | 15 => 115 | 16 => 116 | 17 => 117 | 18 => 118 | 30 => 123 | 31 => 124 | 32 => 125 | 33 => 126 | 34 => 127 | 35 => 102 | 40 => 128 | n => n, fun | 23 => 46 | 25 => 3 | 3 => 3 | 32 => 183 | 22 => 46 | 0 => 0 | 44 => 199 | 46 => 201 | 4 => 4 | 36 => 192 | 35 => 191 | 41 => 120 | 5 => 5 | 9 => 9 | 53 => 203 | 57 => 207 | 63 => 209 | 64 => 210 | n => n, fun | n => n⟩
theorem sortLay : Go.Proofs.SlLaysM.n5 Tryz.prog sortLay_ren := {
  mixed := by kernel_rfl,
  f5 := ⟨Tryz.f87.name, by decide, Tryz.func87.trans (congrArg some (by kernel_rfl))⟩,
  f7 := ⟨Tryz.f103.name, by decide, Tryz.func103.trans (congrArg some (by kernel_rfl))⟩,
  f8 := Tryz.func104.trans (congrArg some (by kernel_rfl)),
  f10 := ⟨Tryz.f110.name, by decide, Tryz.func110.trans (congrArg some (by kernel_rfl))⟩,
  f11 := ⟨Tryz.f111.name, by decide, Tryz.func111.trans (congrArg some (by kernel_rfl))⟩,
  f12 := ⟨Tryz.f112.name, by decide, Tryz.func112.trans (congrArg some (by kernel_rfl))⟩,
  f13 := ⟨Tryz.f113.name, by decide, Tryz.func113.trans (congrArg some (by kernel_rfl))⟩,
  f14 := ⟨Tryz.f114.name, by decide, Tryz.func114.trans (congrArg some (by kernel_rfl))⟩,
  f15 := ⟨Tryz.f115.name, by decide, Tryz.func115.trans (congrArg some (by kernel_rfl))⟩,
  f16 := ⟨Tryz.f116.name, by decide, Tryz.func116.trans (congrArg some (by kernel_rfl))⟩,
  f17 := ⟨Tryz.f117.name, by decide, Tryz.func117.trans (congrArg some (by kernel_rfl))⟩,
  f18 := ⟨Tryz.f118.name, by decide, Tryz.func118.trans (congrArg some (by kernel_rfl))⟩,
  f19 := Tryz.func119.trans (congrArg some (by kernel_rfl)),
  f20 := Tryz.func120.trans (congrArg some (by kernel_rfl)),
  f30 := ⟨Tryz.f123.name, by decide, Tryz.func123.trans (congrArg some (by kernel_rfl))⟩,
  f31 := Tryz.func124.trans (congrArg some (by kernel_rfl)),
  f32 := Tryz.func125.trans (congrArg some (by kernel_rfl)),
  f33 := ⟨Tryz.f126.name, by decide, Tryz.func126.trans (congrArg some (by kernel_rfl))⟩,
  f34 := ⟨Tryz.f127.name, by decide, Tryz.func127.trans (congrArg some (by kernel_rfl))⟩,
  f35 := ⟨Tryz.f102.name, by decide, Tryz.func102.trans (congrArg some (by kernel_rfl))⟩,
  f40 := ⟨Tryz.f128.name, by decide, Tryz.func128.trans (congrArg some (by kernel_rfl))⟩,
  t0 := Tryz.underlying0,
  a0 := Tryz.isAgg0,
  z0 := Tryz.sizeOf0,
  v0 := Tryz.zeroValue0,
  t3 := Tryz.underlying3,
  a3 := Tryz.isAgg3,
  z3 := Tryz.sizeOf3,
  v3 := Tryz.zeroValue3,
  t4 := Tryz.underlying4,
  a4 := Tryz.isAgg4,
  z4 := Tryz.sizeOf4,
  v4 := Tryz.zeroValue4,
  t5 := Tryz.underlying5,
  a5 := Tryz.isAgg5,
  z5 := Tryz.sizeOf5,
  v5 := Tryz.zeroValue5,
  t9 := Tryz.underlying9,
  a9 := Tryz.isAgg9,
  z9 := Tryz.sizeOf9,
  v9 := Tryz.zeroValue9,
  t22 := Tryz.underlying46,
  a22 := Tryz.isAgg46,
  z22 := Tryz.sizeOf46,
  v22 := Tryz.zeroValue46,
  t23 := Tryz.underlying46,
  a23 := Tryz.isAgg46,
  z23 := Tryz.sizeOf46,
  v23 := Tryz.zeroValue46,
  t25 := Tryz.underlying3,
  a25 := Tryz.isAgg3,
  z25 := Tryz.sizeOf3,
  v25 := Tryz.zeroValue3,
  t32 := Tryz.underlying183,
  a32 := Tryz.isAgg183,
  z32 := Tryz.sizeOf183,
  v32 := Tryz.zeroValue183,
  t35 := Tryz.underlying191,
  a35 := Tryz.isAgg191,
  z35 := Tryz.sizeOf191,
  v35 := Tryz.zeroValue191,
  t36 := Tryz.underlying192,
  a36 := Tryz.isAgg192,
  z36 := Tryz.sizeOf192,
  v36 := Tryz.zeroValue192,
  t41 := Tryz.underlying120,
  a41 := Tryz.isAgg120,
  z41 := Tryz.sizeOf120,
  v41 := Tryz.zeroValue120,
  t44 := Tryz.underlying199,
  a44 := Tryz.isAgg199,
  z44 := Tryz.sizeOf199,
  v44 := Tryz.zeroValue199,
  t46 := Tryz.underlying201,
  a46 := Tryz.isAgg201,
  z46 := Tryz.sizeOf201,
  v46 := Tryz.zeroValue201,
  t53 := Tryz.underlying203,
  a53 := Tryz.isAgg203,
  z53 := Tryz.sizeOf203,
  v53 := Tryz.zeroValue203,
  t57 := Tryz.underlying207,
  a57 := Tryz.isAgg207,
  z57 := Tryz.sizeOf207,
  v57 := Tryz.zeroValue207,
  t63 := Tryz.underlying209,
  a63 := Tryz.isAgg209,
  z63 := Tryz.sizeOf209,
  v63 := Tryz.zeroValue209,
  t64 := Tryz.underlying210,
  a64 := Tryz.isAgg210,
  z64 := Tryz.sizeOf210,
  v64 := Tryz.zeroValue210 }

theorem heap_sorted_at {w : World} {g o n : Nat} {os : Array Obj} {cur : Array Value} {e : TypeId} {fr : Nat × Nat} (d : Array Int) (hb : w.heap[g]? = some (.cells cur e fr)) :
    (grow (putRow (Value.int .i64) (Sort.ahead w n) g o d) os).heap[g]? = some (.cells (putCells (Value.int .i64) o d cur) e fr) := by
  have hg : g < w.heap.size := (Array.getElem?_eq_some_iff.1 hb).1
  rw [heap_grow_old _ _ (by simpa using hg)]
  simp [putRow, mapBlock, Sort.ahead, Array.getElem?_modify, hb, onCells]
theorem grownBy_sorted_at {w : World} {g o n : Nat} {os : Array Obj} (d : Array Int) : w.grownBy (grow (putRow (Value.int .i64) (Sort.ahead w n) g o d) os) (some g) := by
  refine ⟨rfl, rfl, rfl, by simp, fun k hk hne => ?_⟩
  rw [heap_grow_old _ _ (by simpa using hk)]
  have : g ≠ k := fun e => hne (by rw [e])
  simp [putRow, mapBlock, Sort.ahead, Array.getElem?_modify, this]
theorem putCells_at (o : Nat) (cur : Array Value) (ts : List Int) (h : o + ts.length ≤ cur.size) : ((putCells (Value.int .i64) o ts.toArray cur).toList.drop o).take ts.length = ts.map (Value.int .i64) := by
  apply List.ext_getElem?
  intro j
  by_cases hj : j < ts.length
  · rw [List.getElem?_take_of_lt hj, List.getElem?_drop, Array.getElem?_toList]
    simp [putCells, hj, show o + j < cur.size by omega]
  · rw [List.getElem?_take_eq_none (by omega), List.getElem?_eq_none (by simp; omega)]
/-- Sorted, in place. -/
def sortI (l : List Int) : List Int := l.mergeSort fun x y => decide (x ≤ y)
theorem sortI_perm (l : List Int) : (sortI l).Perm l := List.mergeSort_perm _ _
theorem sortI_len (l : List Int) : (sortI l).length = l.length := (sortI_perm l).length_eq
theorem sortInts_any (l : List Int) (v : Value) (B : Nat) (w : World) (h : Own w B 3 1 v l.length (l.map (Value.int .i64))) (hl : l.length < 4611686018427387904) :
    Calls Tryz.prog 87 #[v] w fun e w' => e = .returned (.tuple #[]) ∧ Own w' B 3 1 v (sortI l).length ((sortI l).map (Value.int .i64)) ∧ w.grownBy w' v.ownBlock := by
  have hlen := sortI_len l
  have hx := h
  rcases h.2 with ⟨rfl, h0⟩ | ⟨g, o, cap, cur, rfl, hb, hg, h1, h2, h3, h4⟩
  · obtain rfl : l = [] := List.length_eq_zero_iff.1 h0
    have hc := AnyM.slices_Sort_int_none sortLay none 0 w
    change Calls Tryz.prog 87 #[.slice none 0 0] w _ at hc
    refine hc.mono ?_
    rintro e w' ⟨rfl, rfl⟩
    exact ⟨rfl, by simpa [sortI] using hx, grownBy_refl _ _⟩
  · have hH : Holds (Value.int .i64) w g o l.toArray := by
      intro j hj
      have hj' : j < l.length := by simpa using hj
      refine ⟨?_, hx.frozen rfl _⟩
      have := hx.cell rfl (j := j) (u := .int .i64 l[j]) (by simp [hj'])
      rw [this]
      simp [hj']
    have hc := AnyM.slices_Sort_int sortLay g o cap l w hH (Array.getElem?_eq_some_iff.1 hg).1 hl
    change Calls Tryz.prog 87 #[.slice (some ⟨g, o, none⟩) l.length cap] w _ at hc
    refine hc.mono ?_
    rintro e w' ⟨rfl, n, os, rfl⟩
    refine ⟨rfl, ⟨by simp, .inr ⟨g, o, cap, _, by rw [hlen], hb, heap_sorted_at _ hg, by omega, h2, ?_, ?_⟩⟩, grownBy_sorted_at _⟩
    · have : (putCells (Value.int .i64) o (sortI l).toArray cur).size = cur.size := by simp [putCells]
      show o + cap * 1 ≤ (putCells (Value.int .i64) o (sortI l).toArray cur).size
      omega
    · rw [Nat.mul_one]
      exact putCells_at o cur (sortI l) (by omega)
end Go.Proofs.YtpfpgmfdcafpnaaGreatDoor

/- Contract: graph.Ends. -/
namespace Go.Proofs.YtpfpgmfdcafpnaaGreatDoor
open Go Go.RowKit

/-- Ends of ties, in order. -/
def endsS (g : Grf) (id : Int) (bond : ByteArray) (back : Bool) : List Int := sortI (endsL g.ties id bond back)
theorem endsL_len (ts : List Tie) (id : Int) (bond : ByteArray) (back : Bool) : (endsL ts id bond back).length ≤ ts.length := by
  unfold endsL; rw [List.length_map]; exact List.length_filter_le _ _
theorem endsL_take {ts : List Tie} {k : Nat} {t : Tie} (ht : ts[k]? = some t) (id : Int) (bond : ByteArray) (back : Bool) :
    endsL (ts.take (k + 1)) id bond back = endsL (ts.take k) id bond back ++ (if endT back bond id t then [endX back t] else []) := by
  unfold endsL
  rw [List.take_add_one, ht, List.filter_append, List.map_append]
  congr 1
  show ((([t] : List Tie).filter (endT back bond id)).map (endX back)) = _
  rw [List.filter_cons]
  split <;> rfl
theorem endX_i64 {t : Tie} (h : t.ok) (back : Bool) : I64 (endX back t) := by
  unfold endX
  cases back
  · exact h.2.2
  · exact h.2.1
theorem eint_info : (Tryz.prog.info? 3).map (fun i => (i.zero, i.size, i.bytes)) = some (some (.int .i64 0), 1, 8) := by kernel_rfl
set_option maxRecDepth 100000 in
set_option maxHeartbeats 8000000 in
theorem ends_any (g : Grf) (id : Int) (bond : ByteArray) (back : Bool) (vn vt : Value) (w : World) (hG : GrfR w vn vt g) (hl : g.ties.length ≤ 1000) :
    Calls Tryz.prog 63 #[.agg #[vn, vt], .int .i64 id, .string bond, .bool back] w fun e w' => ∃ u, e = .returned u ∧ Own w' w.heap.size 3 1 u (endsS g id bond back).length ((endsS g id bond back).map (Value.int .i64)) ∧ (∀ x ∈ endsS g id bond back, I64 x) ∧ Below w.heap.size w w' := by
  obtain ⟨i0, ei, ez, ez1, ez2⟩ := info_parts eint_info
  obtain ⟨An, cn, rfl, _, _⟩ := hG.1.form
  obtain ⟨At, ct, rfl, _, _⟩ := hG.2.form
  have hb0 : Below w.heap.size w (w.alloc (.cells #[.slice An g.nodes.length cn, .slice At g.ties.length ct] 29)) := (Below.refl _ _).alloc (Nat.le_refl _) _
  obtain ⟨x0, x1⟩ := cell_box2 w (.slice An g.nodes.length cn) (.slice At g.ties.length ct) 29
  generalize hW0 : w.alloc (.cells #[.slice An g.nodes.length cn, .slice At g.ties.length ct] 29) = W0 at *
  have HG := Lib.hid (hG.below hb0)
  have hw0 := hb0.size
  have HE : Hid (endsS g id bond back = sortI (endsL g.ties id bond back)) := rfl
  clear hG
  cases back with
  | true =>
    go_enter Tryz.func63, Tryz.ntmps63
    go_wp2_with fail
    clear hW0
    go_loopw [9, 15] (fun v i wr => W0.heap.size ≤ wr.heap.size ∧ ∃ k : Nat, k ≤ g.ties.length ∧ i = .int .i64 k ∧ Below W0.heap.size W0 wr ∧ Own wr W0.heap.size 3 1 v (endsL (g.ties.take k) id bond true).length ((endsL (g.ties.take k) id bond true).map (Value.int .i64))) (fun _ i _ => g.ties.length - (intOf i).toNat)
    case atStart => exact ⟨Nat.le_refl _, 0, Nat.zero_le _, rfl, Below.refl _ _, Own.nil _ _ _ _⟩
    case round =>
      -- true: back; t.dst, t.src: what stands in the box
      obtain ⟨hsz, k, hk, rfl, hbr, hown⟩ := hrel
      have y1 := cell_below hbr x1
      have hBr := hb0.trans (hbr.mono hw0)
      obtain ⟨acc, hacc⟩ : ∃ acc, endsL (g.ties.take k) id bond true = acc := ⟨_, rfl⟩
      have hal : acc.length ≤ k := by
        rw [← hacc]
        exact Nat.le_trans (endsL_len _ _ _ _) (by rw [List.length_take]; omega)
      by_cases hlt : k < g.ties.length
      · obtain ⟨t, ht⟩ : ∃ t, g.ties[k]? = some t := ⟨_, List.getElem?_eq_getElem hlt⟩
        have hlt' : (k : Int) < (g.ties.length : Int) := by omega
        obtain ⟨b, o, rfl, htok, z0, z1, z2⟩ := tie_at (HG.out.below hbr).2 ht
        have HS : Hid (endsL (g.ties.take (k + 1)) id bond true = acc ++ if decide (t.bond = bond) && (t.dst == id) then [t.src] else []) := by
          have := endsL_take ht id bond true
          rw [hacc] at this
          exact this
        have HX : Hid (I64 (t.src)) := endX_i64 htok true
        have hbx : Below wr.heap.size wr (wr.alloc (.cells #[.string t.bond, .int .i64 (t.dst), .int .i64 (t.src)] 72)) := (Below.refl _ _).alloc (Nat.le_refl _) _
        obtain ⟨b0, b1, b2⟩ := cell_box3 wr (.string t.bond) (.int .i64 (t.dst)) (.int .i64 (t.src)) 72
        rw [hacc] at hown
        have hn1 : W0.heap.size ≤ (wr.alloc (.cells #[.string t.bond, .int .i64 (t.dst), .int .i64 (t.src)] 72)).heap.size := by simp; omega
        have HN1 := Lib.hid hn1
        clear ht hacc hn1
        go_upto_region 7 with fail
        generalize wr.alloc (.cells #[.string t.bond, .int .i64 (t.dst), .int .i64 (t.src)] 72) = W1 at *
        have hB1 := hbr.trans (hbx.mono hsz)
        have ho1 := hown.below hbx
        by_cases hq : t.bond = bond
        · have hqb : (t.bond.toList == bond.toList) = true := by rw [hq]; simp
          have hqd : decide (t.bond.toList = bond.toList) = true := by rw [hq]; simp
          have hqe : t.bond.toList = bond.toList := by rw [hq]
          have hqf : decide (t.bond = bond) = true := decide_eq_true hq
          by_cases hp : t.dst = id
          · have HS2 : Hid (endsL (g.ties.take (k + 1)) id bond true = acc ++ [t.src]) := by
              unfold Hid
              rw [HS.out, hqf, hp]
              simp
            have hp' : decide (t.dst = id) = true := decide_eq_true hp
            have hp'' : (t.dst == id) = true := by rw [hp]; simp
            clear hq hqf HS z0 z1 z2
            obtain ⟨Ap, cp, rfl, _, _⟩ := hown.form
            have ho2 := ho1.alloc (.cells #[.int .i64 (t.src)] 3)
            go_wp2_with (at_builtin; refine wpList_append_q _ rfl (.tmp 36) (.tmp 39) _ rfl W0.heap.size 3 i0 (.int .i64 0) 1 8 Tryz.underlying46 ei ez ez1 ez2 rfl (by decide) (.slice Ap acc.length cp) acc.length (acc.map (Value.int .i64)) rfl ho2 (some ⟨W1.heap.size, 0, none⟩) 1 1 [.int .i64 (t.src)] rfl rfl (fun _ => ⟨_, rfl, cell_one_new W1 (.int .i64 (t.src)) 3⟩) (by simp [Value.oneCell']) (by unfold maxLen; omega) (by omega) (by have := HN1.out; simp; omega) ?_; intro v7 w7 hown7 hg7 hat7)
            have hb7 : Below W0.heap.size W0 w7 := (hB1.alloc HN1.out _).grown hg7 (by have := HN1.out; simp; omega) (fun kk hkk => (ho1.lt kk hkk).1)
            have ho7 : Own w7 W0.heap.size 3 1 v7 (acc ++ [t.src]).length ((acc ++ [t.src]).map (Value.int .i64)) := by simpa using hown7
            have hs7 := hb7.size
            clear hg7 hat7 hown7
            go_roundw
            case rel => exact ⟨hs7, k + 1, by omega, by go_num, hb7, by rw [HS2.out]; exact ho7⟩
            case measure => simp [intOf]; omega
          · have HS2 : Hid (endsL (g.ties.take (k + 1)) id bond true = acc) := by
              unfold Hid
              rw [HS.out, hqf]
              simp [hp]
            have hp' : decide (t.dst = id) = false := decide_eq_false hp
            have hp'' : (t.dst == id) = false := by simp [hp]
            clear hq hqf HS z0 z1 z2
            have hs7 := hB1.size
            go_wp2_with fail
            go_roundw
            case rel => exact ⟨hs7, k + 1, by omega, by go_num, hB1, by rw [HS2.out]; exact ho1⟩
            case measure => simp [intOf]; omega
        · have hqb : (t.bond.toList == bond.toList) = false := by rw [bytes_beq]; exact decide_eq_false hq
          have hqc : ¬ t.bond.toList = bond.toList := by rw [bytes_eq]; exact hq
          have HS2 : Hid (endsL (g.ties.take (k + 1)) id bond true = acc) := by
            unfold Hid
            rw [HS.out, decide_eq_false hq]
            simp
          clear hq HS z0 z1 z2
          have hs7 := hB1.size
          go_wp2_with fail
          go_roundw
          case rel => exact ⟨hs7, k + 1, by omega, by go_num, hB1, by rw [HS2.out]; exact ho1⟩
          case measure => simp [intOf]; omega
      · obtain rfl : k = g.ties.length := by omega
        rw [List.take_length] at hacc
        have HAL : Hid (∀ x ∈ acc, I64 x) := fun x hx => by
          rw [← hacc] at hx
          unfold endsL at hx
          obtain ⟨t, ht, rfl⟩ := List.mem_map.1 hx
          obtain ⟨i, hi⟩ := List.mem_iff_getElem?.1 (List.mem_filter.1 ht).1
          obtain ⟨b, o, hv, htok, _⟩ := tie_at HG.out.2 hi
          exact endX_i64 htok _
        have HE2 : Hid (endsS g id bond true = sortI acc) := by unfold Hid; rw [HE.out, hacc]
        rw [List.take_length, hacc] at hown
        have hst := sortInts_any acc _ _ _ hown (by omega)
        obtain ⟨Ap, cp, rfl, _, _⟩ := hown.form
        clear hacc
        go_wp2_with fail
        refine hst.mono ?_
        clear hst
        rintro e w5 ⟨rfl, ho5, hg5⟩
        have hb5 : Below W0.heap.size W0 w5 := hbr.grown hg5 (by omega) (fun kk hkk => (hown.lt kk hkk).1)
        clear hown hg5
        go_wp2_with fail
        go_ret
        refine ⟨_, rfl, ?_, ?_, hb0.trans (hb5.mono hw0)⟩
        · rw [HE2.out]
          rw [sortI_len] at ho5 ⊢
          exact ho5.mono hw0
        · rw [HE2.out]
          exact fun x hx => HAL.out x ((sortI_perm acc).mem_iff.1 hx)
  | false =>
    go_enter Tryz.func63, Tryz.ntmps63
    go_wp2_with fail
    clear hW0
    go_loopw [9, 15] (fun v i wr => W0.heap.size ≤ wr.heap.size ∧ ∃ k : Nat, k ≤ g.ties.length ∧ i = .int .i64 k ∧ Below W0.heap.size W0 wr ∧ Own wr W0.heap.size 3 1 v (endsL (g.ties.take k) id bond false).length ((endsL (g.ties.take k) id bond false).map (Value.int .i64))) (fun _ i _ => g.ties.length - (intOf i).toNat)
    case atStart => exact ⟨Nat.le_refl _, 0, Nat.zero_le _, rfl, Below.refl _ _, Own.nil _ _ _ _⟩
    case round =>
      -- false: back; t.src, t.dst: what stands in the box
      obtain ⟨hsz, k, hk, rfl, hbr, hown⟩ := hrel
      have y1 := cell_below hbr x1
      have hBr := hb0.trans (hbr.mono hw0)
      obtain ⟨acc, hacc⟩ : ∃ acc, endsL (g.ties.take k) id bond false = acc := ⟨_, rfl⟩
      have hal : acc.length ≤ k := by
        rw [← hacc]
        exact Nat.le_trans (endsL_len _ _ _ _) (by rw [List.length_take]; omega)
      by_cases hlt : k < g.ties.length
      · obtain ⟨t, ht⟩ : ∃ t, g.ties[k]? = some t := ⟨_, List.getElem?_eq_getElem hlt⟩
        have hlt' : (k : Int) < (g.ties.length : Int) := by omega
        obtain ⟨b, o, rfl, htok, z0, z1, z2⟩ := tie_at (HG.out.below hbr).2 ht
        have HS : Hid (endsL (g.ties.take (k + 1)) id bond false = acc ++ if decide (t.bond = bond) && (t.src == id) then [t.dst] else []) := by
          have := endsL_take ht id bond false
          rw [hacc] at this
          exact this
        have HX : Hid (I64 (t.dst)) := endX_i64 htok false
        have hbx : Below wr.heap.size wr (wr.alloc (.cells #[.string t.bond, .int .i64 (t.src), .int .i64 (t.dst)] 72)) := (Below.refl _ _).alloc (Nat.le_refl _) _
        obtain ⟨b0, b1, b2⟩ := cell_box3 wr (.string t.bond) (.int .i64 (t.src)) (.int .i64 (t.dst)) 72
        rw [hacc] at hown
        have hn1 : W0.heap.size ≤ (wr.alloc (.cells #[.string t.bond, .int .i64 (t.src), .int .i64 (t.dst)] 72)).heap.size := by simp; omega
        have HN1 := Lib.hid hn1
        clear ht hacc hn1
        go_upto_region 7 with fail
        generalize wr.alloc (.cells #[.string t.bond, .int .i64 (t.src), .int .i64 (t.dst)] 72) = W1 at *
        have hB1 := hbr.trans (hbx.mono hsz)
        have ho1 := hown.below hbx
        by_cases hq : t.bond = bond
        · have hqb : (t.bond.toList == bond.toList) = true := by rw [hq]; simp
          have hqd : decide (t.bond.toList = bond.toList) = true := by rw [hq]; simp
          have hqe : t.bond.toList = bond.toList := by rw [hq]
          have hqf : decide (t.bond = bond) = true := decide_eq_true hq
          by_cases hp : t.src = id
          · have HS2 : Hid (endsL (g.ties.take (k + 1)) id bond false = acc ++ [t.dst]) := by
              unfold Hid
              rw [HS.out, hqf, hp]
              simp
            have hp' : decide (t.src = id) = true := decide_eq_true hp
            have hp'' : (t.src == id) = true := by rw [hp]; simp
            clear hq hqf HS z0 z1 z2
            obtain ⟨Ap, cp, rfl, _, _⟩ := hown.form
            have ho2 := ho1.alloc (.cells #[.int .i64 (t.dst)] 3)
            go_wp2_with (at_builtin; refine wpList_append_q _ rfl (.tmp 36) (.tmp 39) _ rfl W0.heap.size 3 i0 (.int .i64 0) 1 8 Tryz.underlying46 ei ez ez1 ez2 rfl (by decide) (.slice Ap acc.length cp) acc.length (acc.map (Value.int .i64)) rfl ho2 (some ⟨W1.heap.size, 0, none⟩) 1 1 [.int .i64 (t.dst)] rfl rfl (fun _ => ⟨_, rfl, cell_one_new W1 (.int .i64 (t.dst)) 3⟩) (by simp [Value.oneCell']) (by unfold maxLen; omega) (by omega) (by have := HN1.out; simp; omega) ?_; intro v7 w7 hown7 hg7 hat7)
            have hb7 : Below W0.heap.size W0 w7 := (hB1.alloc HN1.out _).grown hg7 (by have := HN1.out; simp; omega) (fun kk hkk => (ho1.lt kk hkk).1)
            have ho7 : Own w7 W0.heap.size 3 1 v7 (acc ++ [t.dst]).length ((acc ++ [t.dst]).map (Value.int .i64)) := by simpa using hown7
            have hs7 := hb7.size
            clear hg7 hat7 hown7
            go_roundw
            case rel => exact ⟨hs7, k + 1, by omega, by go_num, hb7, by rw [HS2.out]; exact ho7⟩
            case measure => simp [intOf]; omega
          · have HS2 : Hid (endsL (g.ties.take (k + 1)) id bond false = acc) := by
              unfold Hid
              rw [HS.out, hqf]
              simp [hp]
            have hp' : decide (t.src = id) = false := decide_eq_false hp
            have hp'' : (t.src == id) = false := by simp [hp]
            clear hq hqf HS z0 z1 z2
            have hs7 := hB1.size
            go_wp2_with fail
            go_roundw
            case rel => exact ⟨hs7, k + 1, by omega, by go_num, hB1, by rw [HS2.out]; exact ho1⟩
            case measure => simp [intOf]; omega
        · have hqb : (t.bond.toList == bond.toList) = false := by rw [bytes_beq]; exact decide_eq_false hq
          have hqc : ¬ t.bond.toList = bond.toList := by rw [bytes_eq]; exact hq
          have HS2 : Hid (endsL (g.ties.take (k + 1)) id bond false = acc) := by
            unfold Hid
            rw [HS.out, decide_eq_false hq]
            simp
          clear hq HS z0 z1 z2
          have hs7 := hB1.size
          go_wp2_with fail
          go_roundw
          case rel => exact ⟨hs7, k + 1, by omega, by go_num, hB1, by rw [HS2.out]; exact ho1⟩
          case measure => simp [intOf]; omega
      · obtain rfl : k = g.ties.length := by omega
        rw [List.take_length] at hacc
        have HAL : Hid (∀ x ∈ acc, I64 x) := fun x hx => by
          rw [← hacc] at hx
          unfold endsL at hx
          obtain ⟨t, ht, rfl⟩ := List.mem_map.1 hx
          obtain ⟨i, hi⟩ := List.mem_iff_getElem?.1 (List.mem_filter.1 ht).1
          obtain ⟨b, o, hv, htok, _⟩ := tie_at HG.out.2 hi
          exact endX_i64 htok _
        have HE2 : Hid (endsS g id bond false = sortI acc) := by unfold Hid; rw [HE.out, hacc]
        rw [List.take_length, hacc] at hown
        have hst := sortInts_any acc _ _ _ hown (by omega)
        obtain ⟨Ap, cp, rfl, _, _⟩ := hown.form
        clear hacc
        go_wp2_with fail
        refine hst.mono ?_
        clear hst
        rintro e w5 ⟨rfl, ho5, hg5⟩
        have hb5 : Below W0.heap.size W0 w5 := hbr.grown hg5 (by omega) (fun kk hkk => (hown.lt kk hkk).1)
        clear hown hg5
        go_wp2_with fail
        go_ret
        refine ⟨_, rfl, ?_, ?_, hb0.trans (hb5.mono hw0)⟩
        · rw [HE2.out]
          rw [sortI_len] at ho5 ⊢
          exact ho5.mono hw0
        · rw [HE2.out]
          exact fun x hx => HAL.out x ((sortI_perm acc).mem_iff.1 hx)
end Go.Proofs.YtpfpgmfdcafpnaaGreatDoor

/- Plain: all faults of a graph, by a schema. No condition. -/
namespace Go.Proofs.YtpfpgmfdcafpnaaGreatDoor
open Go Go.RowKit

/-- Whether a field is a key that a node has, of its type; which one. -/
def keyOf (n : Nod) (f : Fld) : Option Key := match n.props[rpos n.props f.name]? with
  | some p => if f.key = true ∧ rhas n.props f.name = true ∧ p.v.ty = f.ty then some ⟨f.name, p.v⟩ else none
  | none => none
def keyStep (n : Nod) (acc : List Flt × List Key) (f : Fld) : List Flt × List Key := match keyOf n f with
  | some k => if k ∈ acc.2 then (acc.1 ++ [⟨4, n.id, f.name⟩], acc.2) else (acc.1, acc.2 ++ [k])
  | none => acc
def keysF (n : Nod) (fields : List Fld) (S : List Key) : List Flt × List Key := fields.foldl (keyStep n) ([], S)
def manyF (g : Grf) (n : Nod) (b : Bnd) : Int := ((endsS g n.id b.name false).length : Int)
def bondF (s : Scm) (g : Grf) (n : Nod) (b : Bnd) : List Flt :=
  if isKinB s.kinds n.kind b.src = true then
    (if manyF g n b < b.mn then [⟨7, n.id, b.name⟩] else []) ++ (if 0 ≤ b.mx ∧ b.mx < manyF g n b then [⟨8, n.id, b.name⟩] else [])
  else []
def nodeF (s : Scm) (g : Grf) (S : List Key) (n : Nod) : List Flt × List Key :=
  if kFind s.kinds n.kind < 0 then (aloneF s n, S)
  else (aloneF s n ++ (keysF n (kfl s n.kind) S).1 ++ s.bonds.flatMap (bondF s g n), (keysF n (kfl s n.kind) S).2)
def nodesF (s : Scm) (g : Grf) (l : List Nod) : List Flt × List Key := l.foldl (fun acc n => (acc.1 ++ (nodeF s g acc.2 n).1, (nodeF s g acc.2 n).2)) ([], [])
def tieF (s : Scm) (g : Grf) (t : Tie) : List Flt := match s.bonds[(bFind s.bonds t.bond).toNat]? with
  | some b => if bFind s.bonds t.bond < 0 then [⟨5, t.src, t.bond⟩] else if endB s g t.src b.src = true ∧ endB s g t.dst b.dst = true then [] else [⟨6, t.src, t.bond⟩]
  | none => [⟨5, t.src, t.bond⟩]
/-- All faults. -/
def ofF (s : Scm) (g : Grf) : List Flt := (nodesF s g g.nodes).1 ++ g.ties.flatMap (tieF s g)
theorem nodesF_snoc (s : Scm) (g : Grf) (l : List Nod) (n : Nod) : nodesF s g (l ++ [n]) = ((nodesF s g l).1 ++ (nodeF s g (nodesF s g l).2 n).1, (nodeF s g (nodesF s g l).2 n).2) := by simp [nodesF]
theorem keysF_snoc (n : Nod) (l : List Fld) (f : Fld) (S : List Key) : keysF n (l ++ [f]) S = keyStep n (keysF n l S) f := by simp [keysF]
theorem keyStep_len (n : Nod) (acc : List Flt × List Key) (f : Fld) : (keyStep n acc f).1.length ≤ acc.1.length + 1 := by
  unfold keyStep
  split
  · split <;> simp
  · omega
theorem keysFold_len (n : Nod) : ∀ (l : List Fld) (acc : List Flt × List Key), (l.foldl (keyStep n) acc).1.length ≤ acc.1.length + l.length
  | [], _ => by simp
  | f :: r, acc => by
    have h1 := keysFold_len n r (keyStep n acc f)
    have h2 := keyStep_len n acc f
    simp only [List.foldl_cons, List.length_cons]
    omega
theorem keysF_len (n : Nod) (l : List Fld) (S : List Key) : (keysF n l S).1.length ≤ l.length := by
  have h := keysFold_len n l ([], S)
  simpa [keysF] using h
theorem aloneF_len (s : Scm) (n : Nod) : (aloneF s n).length ≤ n.props.length + (kfl s n.kind).length + 1 := by
  unfold aloneF recF
  split
  · simp
  · have h1 := List.length_filter_le (badF (kfl s n.kind)) n.props
    have h2 := List.length_filter_le (lackF n) (kfl s n.kind)
    simp only [List.length_append, List.length_map]
    omega
end Go.Proofs.YtpfpgmfdcafpnaaGreatDoor

/- Plain: a graph that conforms: each node is right by itself. No condition. -/
namespace Go.Proofs.YtpfpgmfdcafpnaaGreatDoor
open Go Go.RowKit

theorem nodeF_alone {s : Scm} {g : Grf} {S : List Key} {n : Nod} (h : (nodeF s g S n).1 = []) : aloneF s n = [] := by
  unfold nodeF at h
  split at h
  · exact h
  · have h1 := (List.append_eq_nil_iff.1 h).1
    exact (List.append_eq_nil_iff.1 h1).1
theorem nodesF_aux {s : Scm} {g : Grf} : ∀ (l : List Nod) (acc : List Flt × List Key), (l.foldl (fun acc n => (acc.1 ++ (nodeF s g acc.2 n).1, (nodeF s g acc.2 n).2)) acc).1 = [] → acc.1 = [] ∧ ∀ n ∈ l, aloneF s n = []
  | [], _, h => ⟨h, by simp⟩
  | n :: r, acc, h => by
    obtain ⟨h1, h2⟩ := nodesF_aux r _ h
    obtain ⟨a1, a2⟩ := List.append_eq_nil_iff.1 h1
    refine ⟨a1, fun m hm => ?_⟩
    rcases List.mem_cons.1 hm with rfl | hm
    · exact nodeF_alone a2
    · exact h2 m hm
theorem ofF_alone {s : Scm} {g : Grf} (h : ofF s g = []) : ∀ n ∈ g.nodes, aloneF s n = [] := by
  unfold ofF at h
  exact (nodesF_aux g.nodes ([], []) (List.append_eq_nil_iff.1 h).1).2
theorem ofF_empty (s : Scm) : ofF s ⟨[], []⟩ = [] := rfl
/-- All that nodes have that are wrong by themselves. -/
def sumA (s : Scm) (l : List Nod) : Nat := (l.map fun n => (aloneF s n).length).sum
theorem sumA_snoc {s : Scm} {l : List Nod} {k : Nat} {n : Nod} (h : l[k]? = some n) : sumA s (l.take (k + 1)) = sumA s (l.take k) + (aloneF s n).length := by
  unfold sumA
  rw [take_snocF h]
  simp
theorem sumA_zero {s : Scm} {l : List Nod} (h : ∀ n ∈ l, aloneF s n = []) : sumA s l = 0 := by
  unfold sumA
  induction l with
  | nil => rfl
  | cons n r ih =>
    have h1 := h n (by simp)
    have h2 := ih (fun m hm => h m (by simp [hm]))
    simp [h1, h2]
theorem sumA_le {s : Scm} {b : Nat} : ∀ {l : List Nod}, (∀ n ∈ l, (aloneF s n).length ≤ b) → sumA s l ≤ l.length * b
  | [], _ => by simp [sumA]
  | n :: r, h => by
    have h1 := h n (by simp)
    have h2 := sumA_le (l := r) (fun m hm => h m (by simp [hm]))
    unfold sumA at h2 ⊢
    simp only [List.map_cons, List.sum_cons, List.length_cons, Nat.succ_mul]
    omega
/-- A schema that is right: each kind's fields are few. -/
theorem kfl_len {s : Scm} (h : Right s.kinds) (nm : ByteArray) : (kfl s nm).length ≤ 8 := by
  unfold kfl
  split
  · simp
  · rename_i hk
    obtain ⟨i, k, _, hk2, hk3, _⟩ := kFind_pos (by omega : 0 ≤ kFind s.kinds nm)
    obtain ⟨fs, h1, h2⟩ := h.fields (List.mem_of_getElem? hk2)
    rw [hk3] at h1
    rw [h1]
    exact h2
theorem flat_le {D E : Type} {f : D → List E} {c : Nat} : ∀ {l : List D}, (∀ x ∈ l, (f x).length ≤ c) → (l.flatMap f).length ≤ l.length * c
  | [], _ => by simp
  | x :: r, h => by
    have h1 := h x (by simp)
    have h2 := flat_le (l := r) (fun y hy => h y (by simp [hy]))
    simp only [List.flatMap_cons, List.length_append, List.length_cons, Nat.succ_mul]
    omega
theorem bondF_len (s : Scm) (g : Grf) (n : Nod) (b : Bnd) : (bondF s g n b).length ≤ 2 := by
  unfold bondF
  split
  · rw [List.length_append]
    split <;> split <;> simp
  · simp
theorem nodeF_len {s : Scm} {g : Grf} {S : List Key} {n : Nod} (hp : n.props.length ≤ 8) (hk : (kfl s n.kind).length ≤ 8) (hb : s.bonds.length ≤ 12) : (nodeF s g S n).1.length ≤ 60 := by
  have h1 := aloneF_len s n
  have h2 := keysF_len n (kfl s n.kind) S
  have h3 := flat_le (l := s.bonds) (f := bondF s g n) (c := 2) (fun b _ => bondF_len s g n b)
  unfold nodeF
  split
  · show (aloneF s n).length ≤ 60
    omega
  · simp only [List.length_append]
    omega
theorem nodesF_len {s : Scm} {g : Grf} (hk : ∀ nm, (kfl s nm).length ≤ 8) (hb : s.bonds.length ≤ 12) : ∀ (l : List Nod) (acc : List Flt × List Key), (∀ n ∈ l, n.props.length ≤ 8) → (l.foldl (fun acc n => (acc.1 ++ (nodeF s g acc.2 n).1, (nodeF s g acc.2 n).2)) acc).1.length ≤ acc.1.length + l.length * 60
  | [], _, _ => by simp
  | n :: r, acc, h => by
    have h1 := nodesF_len (g := g) hk hb r (acc.1 ++ (nodeF s g acc.2 n).1, (nodeF s g acc.2 n).2) (fun m hm => h m (by simp [hm]))
    have h2 := nodeF_len (g := g) (S := acc.2) (h n (by simp)) (hk n.kind) hb
    simp only [List.length_append] at h1
    simp only [List.foldl_cons, List.length_cons, Nat.succ_mul]
    omega
theorem nodesF_le {s : Scm} {g : Grf} (hk : ∀ nm, (kfl s nm).length ≤ 8) (hb : s.bonds.length ≤ 12) (h : ∀ n ∈ g.nodes, n.props.length ≤ 8) (k : Nat) : (nodesF s g (g.nodes.take k)).1.length ≤ k * 60 := by
  have h1 := nodesF_len (g := g) hk hb (g.nodes.take k) ([], []) (fun n hn => h n (List.mem_of_mem_take hn))
  have h2 : (g.nodes.take k).length ≤ k := by rw [List.length_take]; omega
  have h3 : (nodesF s g (g.nodes.take k)).1.length ≤ 0 + (g.nodes.take k).length * 60 := h1
  have h4 : (g.nodes.take k).length * 60 ≤ k * 60 := Nat.mul_le_mul_right _ h2
  omega
theorem tieF_len (s : Scm) (g : Grf) (t : Tie) : (tieF s g t).length ≤ 1 := by
  unfold tieF
  split
  · split
    · simp
    · split <;> simp
  · simp
theorem tieF_le (s : Scm) (g : Grf) (k : Nat) : ((g.ties.take k).flatMap (tieF s g)).length ≤ k := by
  have h1 := flat_le (l := g.ties.take k) (f := tieF s g) (c := 1) (fun t _ => tieF_len s g t)
  have h2 : (g.ties.take k).length ≤ k := by rw [List.length_take]; omega
  omega
/-- The fields that are keys. -/
theorem keyOf_none {n : Nod} {f : Fld} (h : f.key = false ∨ rhas n.props f.name = false) : keyOf n f = none := by
  unfold keyOf
  split
  · rw [if_neg]
    rintro ⟨h1, h2, _⟩
    rcases h with h | h
    · rw [h] at h1; cases h1
    · rw [h] at h2; cases h2
  · rfl
theorem keyOf_at {n : Nod} {f : Fld} {p : Prp} (h1 : f.key = true) (h2 : rhas n.props f.name = true) (hp : n.props[rpos n.props f.name]? = some p) : keyOf n f = if p.v.ty = f.ty then some ⟨f.name, p.v⟩ else none := by
  unfold keyOf
  rw [hp]
  simp [h1, h2]
end Go.Proofs.YtpfpgmfdcafpnaaGreatDoor

/- Plain: the fields of a kind; a node by itself; keys. No condition. -/
namespace Go.Proofs.YtpfpgmfdcafpnaaGreatDoor
open Go Go.RowKit

/-- The one kind of a name. -/
theorem Wf.uniq {l : List Knd} (hw : Wf l) {x y : Knd} (hx : x ∈ l) (hy : y ∈ l) (he : x.name = y.name) : x = y := by
  obtain ⟨i, hi⟩ := List.mem_iff_getElem?.1 hx
  obtain ⟨j, hj⟩ := List.mem_iff_getElem?.1 hy
  rcases Nat.lt_trichotomy i j with h | h | h
  · exact absurd he ((hw j y hj).1 i x h hi)
  · subst h; rw [hi] at hj; injection hj
  · exact absurd he.symm ((hw i x hi).1 j y h hj)
theorem fldsFor_of {l : List Knd} (hw : Wf l) {k : Knd} (hk : k ∈ l) : fldsFor l k.name = k.fields := by
  unfold fldsFor
  cases h : l.find? (fun x => decide (x.name = k.name)) with
  | none => rw [List.find?_eq_none] at h; exact absurd (h k hk) (by simp)
  | some d =>
    have h1 := List.mem_of_find?_eq_some h
    have h2 := List.find?_some h
    simp only [decide_eq_true_eq] at h2
    rw [hw.uniq h1 hk h2]
theorem allF_rise : ∀ {fs acc out : List Fld}, fs.foldlM putF acc = some out → Rise acc → Rise out
  | [], acc, out, h, hr => by
    simp only [List.foldlM_nil] at h
    injection h with h; subst h; exact hr
  | f :: fs, acc, out, h, hr => by
    rw [List.foldlM_cons] at h
    cases hp : putF acc f with
    | none => rw [hp] at h; cases h
    | some acc' => rw [hp] at h; exact allF_rise (show fs.foldlM putF acc' = some out from h) (putF_rise hr hp)
theorem Rise.uniq {l : List Fld} (h : Rise l) {x y : Fld} (hx : x ∈ l) (hy : y ∈ l) (he : x.name = y.name) : x = y := by
  obtain ⟨i, hi, rfl⟩ := List.mem_iff_getElem.1 hx
  obtain ⟨j, hj, rfl⟩ := List.mem_iff_getElem.1 hy
  rcases Nat.lt_trichotomy i j with h' | h' | h'
  · have := List.pairwise_iff_getElem.1 h i j hi hj h'
    rw [he, cmpS_zero.2 rfl] at this; omega
  · subst h'; rfl
  · have := List.pairwise_iff_getElem.1 h j i hj hi h'
    rw [he, cmpS_zero.2 rfl] at this; omega
/-- A kind's fields, of kinds that are right. -/
theorem kfl_some {s : Scm} (h : Right s.kinds) {k : Knd} (hk : k ∈ s.kinds) : fieldsOf s.kinds k.name = some (kfl s k.name) := by
  obtain ⟨fs, h1, _⟩ := h.fields hk
  unfold kfl
  rw [if_neg (by have := kFind_mem hk; omega), h1]
  rfl
theorem kfl_rise {s : Scm} (h : Right s.kinds) {k : Knd} (hk : k ∈ s.kinds) : Rise (kfl s k.name) :=
  allF_rise (kfl_some h hk) List.Pairwise.nil
theorem kfl_mem {s : Scm} (h : Right s.kinds) {k : Knd} (hk : k ∈ s.kinds) (x : Fld) : x ∈ kfl s k.name ↔ ∃ d ∈ s.kinds, d.name ∈ kinL s.kinds k.name ∧ x ∈ d.fields := by
  rw [fieldsOf_mem (kfl_some h hk)]
  constructor
  · rintro ⟨nm, h1, h2⟩
    obtain ⟨⟨d, hd, rfl⟩, _⟩ := mem_kinL.1 h1
    rw [fldsFor_of h.wf hd] at h2
    exact ⟨d, hd, h1, h2⟩
  · rintro ⟨d, hd, h1, h2⟩
    exact ⟨d.name, h1, by rw [fldsFor_of h.wf hd]; exact h2⟩
theorem tyF_aux (s : ByteArray) : ∀ (fs : List Fld) (F : ByteArray → Int), ((fs.foldl (fun F f => fun s => if f.name = s then f.ty else F s) F) s = F s ∧ ∀ f ∈ fs, f.name ≠ s) ∨ ∃ f ∈ fs, f.name = s ∧ (fs.foldl (fun F f => fun s => if f.name = s then f.ty else F s) F) s = f.ty
  | [], F => .inl ⟨rfl, by simp⟩
  | f :: r, F => by
    rcases tyF_aux s r (fun s => if f.name = s then f.ty else F s) with ⟨h1, h2⟩ | ⟨x, hx, h1, h2⟩
    · by_cases h : f.name = s
      · exact .inr ⟨f, by simp, h, by rw [List.foldl_cons, h1, if_pos h]⟩
      · exact .inl ⟨by rw [List.foldl_cons, h1, if_neg h], fun x hx => by
          rcases List.mem_cons.1 hx with rfl | hx
          · exact h
          · exact h2 x hx⟩
    · exact .inr ⟨x, by simp [hx], h1, h2⟩
theorem tyF_cases (fs : List Fld) (s : ByteArray) : (tyF fs s = 0 ∧ ∀ f ∈ fs, f.name ≠ s) ∨ ∃ f ∈ fs, f.name = s ∧ tyF fs s = f.ty := tyF_aux s fs _
theorem firstE_zero {D : Type} {f : D → Int} : ∀ {l : List D}, firstE f l = 0 → ∀ x ∈ l, f x = 0
  | [], _, _, h => by cases h
  | d :: r, h, x, hx => by
    rw [firstE] at h
    split at h
    · rename_i h0
      rcases List.mem_cons.1 hx with rfl | hx
      · exact h0
      · exact firstE_zero h x hx
    · rename_i h0; exact absurd h h0
theorem nodE_types {n : Nod} (h : nodE n = 0) : ∀ p ∈ n.props, p.v.ty ≠ 0 := by
  have h1 : recE n.props = 0 := by
    unfold nodE at h
    split at h
    · omega
    · split at h
      · exact h
      · rename_i h0; exact absurd h h0
  have h2 : firstE prpE n.props = 0 := by
    unfold recE at h1
    split at h1
    · omega
    · split at h1
      · assumption
      · rename_i h0; exact absurd h1 h0
  intro p hp e
  have h3 := firstE_zero h2 p hp
  have h4 : valE p.v = 0 := by
    unfold prpE at h3
    split at h3
    · exact h3
    · rename_i h0; exact absurd h3 h0
  unfold valE at h4
  rw [e] at h4
  simp at h4
theorem recF_nil {fs : List Fld} {n : Nod} : recF fs n = [] ↔ (∀ p ∈ n.props, tyF fs p.name = p.v.ty) ∧ ∀ f ∈ fs, f.must = true → rhas n.props f.name = true := by
  unfold recF
  rw [List.append_eq_nil_iff, List.map_eq_nil_iff, List.map_eq_nil_iff, List.filter_eq_nil_iff, List.filter_eq_nil_iff]
  unfold badF lackF
  simp
theorem aloneF_kind {s : Scm} {n : Nod} (h : aloneF s n = []) : ∃ k ∈ s.kinds, k.name = n.kind := by
  unfold aloneF at h
  split at h
  · cases h
  · rename_i h0
    obtain ⟨i, k, _, h2, h3, _⟩ := kFind_pos (by omega : 0 ≤ kFind s.kinds n.kind)
    exact ⟨k, List.mem_of_getElem? h2, h3⟩
theorem aloneF_rec {s : Scm} {n : Nod} (hk : ∃ k ∈ s.kinds, k.name = n.kind) : aloneF s n = recF (kfl s n.kind) n := by
  obtain ⟨k, h1, h2⟩ := hk
  have := kFind_mem h1
  rw [h2] at this
  unfold aloneF
  rw [if_neg (by omega)]
theorem keyOf_iff {n : Nod} {f : Fld} {k : Key} : keyOf n f = some k ↔ f.key = true ∧ rhas n.props f.name = true ∧ ∃ p, n.props[rpos n.props f.name]? = some p ∧ p.v.ty = f.ty ∧ k = ⟨f.name, p.v⟩ := by
  unfold keyOf
  split
  · rename_i p hp
    constructor
    · intro h
      split at h
      · rename_i h0; injection h with h; exact ⟨h0.1, h0.2.1, p, hp, h0.2.2, h.symm⟩
      · cases h
    · rintro ⟨h1, h2, q, hq, h3, rfl⟩
      rw [hp] at hq; injection hq with hq; subst hq
      rw [if_pos ⟨h1, h2, h3⟩]
  · rename_i hp
    constructor
    · intro h; cases h
    · rintro ⟨_, _, q, hq, _⟩; rw [hp] at hq; cases hq
theorem rhas_get {r : List Prp} {nm : ByteArray} (h : rhas r nm = true) {p : Prp} (hp : r[rpos r nm]? = some p) : p.name = nm := by
  unfold rhas eqAt at h
  rw [hp] at h
  have : prpC nm p = 0 := by simpa using h
  exact cmpS_zero.1 this
end Go.Proofs.YtpfpgmfdcafpnaaGreatDoor
