/- Parts: KinJ, DelA, SchA. -/
import Derived.Test.YtdmpkgiijddcdaaGreatDoorMg11
import Derived.Test.YtdmpkgiijddcdaaGreatDoorMg07
import Derived.Test.YtdmpkgiijddcdaaGreatDoorMg05
import Derived.Test.YtdmpkgiijddcdaaGreatDoorMg01
import Derived.Maps.AppendAt
/- Contracts: kind.Check, kind.ready, kind.Kin, kind.IsKin, kind.Is, kind.Fields, kind.Under. -/
namespace Go.Proofs.YtdmpkgiijddcdaaGreatDoor
open Go Go.RowKit

theorem kindsE_step {l : List Knd} {j : Nat} {k : Knd} (hk : l[j]? = some k) {E : ByteArray × Int} (h : E = kindsE (l.take j) (l.drop j)) :
    E = if oneE (l.take j) k = 0 then kindsE (l.take (j + 1)) (l.drop (j + 1)) else (k.name, oneE (l.take j) k) := by
  rw [h, drop_cons hk, kindsE, take_step hk]
def CheckR (l : List Knd) (w : World) (e : Ending) (w' : World) : Prop := e = .returned (.tuple #[.string (checkE l).1, errV (checkE l).2]) ∧ Below w.heap.size w w'
theorem oneE_ofl {l : List Knd} {k : Knd} (h : oneE l k = 0) : k.ofs.length ≤ 4 ∧ k.fields.length ≤ 8 := ⟨(oneE_zero h).ofl, (oneE_zero h).fll⟩

set_option maxRecDepth 100000 in
set_option maxHeartbeats 4000000 in
theorem kcheck_any (l : List Knd) (v : Value) (w : World) (hv : Sl kndL w v l) : Calls Tryz.prog 94 #[v] w (CheckR l w) := by
  obtain ⟨A, c, rfl, hlc, hcA⟩ := hv.form
  unfold maxLen at hcA
  have hlm : (l.length : Int) ≤ 9223372036854775807 := by omega
  by_cases h12 : 12 < l.length
  · have HE : Hid (checkE l = (.empty, 4)) := by unfold Hid checkE; rw [if_pos h12]
    have h12' : (12 : Int) < (l.length : Int) := by omega
    clear hv
    go_enter Tryz.func94, Tryz.ntmps94
    go_wp2_with fail
    go_ret2
    exact ⟨by rw [HE.out, errV4]; rfl, Below.refl _ _⟩
  have h12' : (l.length : Int) ≤ 12 := by omega
  have HE0 : Hid (checkE l = kindsE [] l) := by unfold Hid checkE; rw [if_neg h12]
  go_enter Tryz.func94, Tryz.ntmps94
  go_wp2_with fail
  go_loopw [13] (fun i wr => ∃ j : Nat, j ≤ l.length ∧ i = .int .i64 j ∧ Below w.heap.size w wr ∧ Hid (kindsE [] l = kindsE (l.take j) (l.drop j)) ∧ Hid (∀ x ∈ l.take j, x.ofs.length ≤ 4 ∧ x.fields.length ≤ 8)) (fun i _ => l.length - (intOf i).toNat)
  case atStart => exact ⟨0, Nat.zero_le _, rfl, Below.refl _ _, rfl, fun x hx => by simp at hx⟩
  case round =>
    obtain ⟨j, hj, rfl, hbr, HR, HS⟩ := hrel
    by_cases hlt : j < l.length
    · obtain ⟨k, hk⟩ : ∃ k, l[j]? = some k := ⟨_, List.getElem?_eq_getElem hlt⟩
      obtain ⟨b, o, rfl, u, x, hnm, hso, hsf, c0, c1, c2⟩ := knd_at (hv.below hbr) hk
      obtain ⟨A1, q1, rfl, _, _⟩ := hso.form
      obtain ⟨A2, q2, rfl, _, _⟩ := hsf.form
      obtain ⟨z0, z1, z2⟩ := cell_box3 wr (.string k.name) (.slice A1 k.ofs.length q1) (.slice A2 k.fields.length q2) 35
      have hbb : Below wr.heap.size wr (wr.alloc (.cells #[.string k.name, .slice A1 k.ofs.length q1, .slice A2 k.fields.length q2] 35)) := (Below.refl _ _).alloc (Nat.le_refl _) _
      have hlt' : (j : Int) < (l.length : Int) := by omega
      have hjc : (j : Int) ≤ (c : Int) := by omega
      have hlk : (l.take j).length ≤ 12 := by simp; omega
      have HV : Hid (Sl kndL (wr.alloc (.cells #[.string k.name, .slice A1 k.ofs.length q1, .slice A2 k.fields.length q2] 35)) (.slice (some ⟨b, o, none⟩) j c) (l.take j)) := (Sl.take ((hv.below hbr).below hbb) hj)
      have HSO := Lib.hid (hso.below hbb)
      have HSF := Lib.hid (hsf.below hbb)
      have HK := Lib.hid (kindsE_step hk HR.out)
      have HT := Lib.hid (take_step hk)
      clear hk HR hso hsf
      go_wp2_with fail
      refine wp_mid_k 4 _ rfl rfl (by kernel_rfl) (by kernel_rfl) ?_
      simp only [List.take_succ_cons, List.take_zero, List.drop_succ_cons, List.drop_zero]
      repeat (go_big_quiet_step (fail))
      refine wpQuiet_nil ?_
      intro _ hw'
      obtain ⟨nq, hw''⟩ := hw'
      subst hw''
      intro K hK
      have hone := one_any (l.take j) k _ _ _ _ (HV.out.below (below_drewN (Below.refl _ _) nq)) (HSO.out.below (below_drewN (Below.refl _ _) nq)) (HSF.out.below (below_drewN (Below.refl _ _) nq)) hnm hlk (fun x hx => (HS.out x hx).1) (fun x hx => (HS.out x hx).2)
      have hbN : Below w.heap.size w ((wr.alloc (.cells #[.string k.name, .slice A1 k.ofs.length q1, .slice A2 k.fields.length q2] 35)).drewN nq) := below_drewN (hbr.alloc hbr.size _) nq
      have y0 : ((wr.alloc (.cells #[.string k.name, .slice A1 k.ofs.length q1, .slice A2 k.fields.length q2] 35)).drewN nq).cell? ⟨wr.heap.size, 0, none⟩ = some (.string k.name) := z0
      go_wp2_with fail
      refine hone.mono ?_
      clear hone
      rintro e w3 ⟨rfl, hb3⟩
      have hB3 := hbN.trans (hb3.mono hbN.size)
      have x0 := cell_below hb3 y0
      clear y0 z0 z1 z2 hb3 hbN
      by_cases he : oneE (l.take j) k = 0
      · have HN : Hid (kindsE [] l = kindsE (l.take (j + 1)) (l.drop (j + 1))) := by unfold Hid; rw [HK.out, if_pos he]
        have HS2 : Hid (∀ x ∈ l.take (j + 1), x.ofs.length ≤ 4 ∧ x.fields.length ≤ 8) := by
          intro x hx
          rw [HT.out] at hx
          rcases List.mem_append.1 hx with h | h
          · exact HS.out x h
          · simp at h; subst h; exact oneE_ofl he
        rw [errV_zero he]
        clear he HK
        refine hK _ _ ?_
        repeat (go_big_quiet_step (fail))
        refine wpQuiet_nil ?_
        intro _ hw'
        obtain ⟨nq2, hw''⟩ := hw'
        subst hw''
        go_wp2_with fail
        go_roundw
        case rel => exact ⟨j + 1, by omega, by go_num, below_drewN hB3 _, HN, HS2⟩
        case measure => simp [intOf]; omega
      · have HE : Hid (checkE l = (k.name, oneE (l.take j) k)) := by unfold Hid; rw [HE0.out, HK.out, if_neg he]
        have HV : Hid (errV (oneE (l.take j) k) = .iface 118 (.int .i64 (oneE (l.take j) k))) := errV_some he
        rw [errV_some he]
        clear he HK
        refine hK _ _ ?_
        repeat (go_big_quiet_step (fail))
        refine wpQuiet_nil ?_
        intro _ hw'
        obtain ⟨nq2, hw''⟩ := hw'
        subst hw''
        go_wp2_with fail
        go_ret2
        exact ⟨by rw [HE.out, HV.out]; rfl, below_drewN hB3 _⟩
    · obtain rfl : j = l.length := by omega
      have HE : Hid (checkE l = (.empty, 0)) := by unfold Hid; rw [HE0.out, HR.out, List.drop_length]; rfl
      clear hv
      go_wp2_with fail
      go_ret2
      exact ⟨by rw [HE.out, errV0]; rfl, hbr⟩

/-! ### Lists -/
section
variable {D : Type} {n : Nat} {enc : D → List Value}
end

/-! ### What is kept -/
structure Kept {D : Type} (p : D → Bool) (l dk : List D) (j i : Nat) : Prop where
  len : dk.length = l.length
  lt : i < j
  le : j ≤ l.length
  low : dk.take i = (l.take j).filter (fun x => !p x)
  high : dk.drop j = l.drop j
theorem filter_all {D : Type} {p : D → Bool} {l : List D} (h : ∀ j x, j < l.length → l[j]? = some x → p x = false) : l.filter (fun x => !p x) = l := by
  rw [List.filter_eq_self]
  intro x hx
  obtain ⟨i, hi⟩ := List.mem_iff_getElem?.1 hx
  rw [h i x (List.getElem?_eq_some_iff.1 hi).1 hi]; rfl
theorem take_snoc {D : Type} {l : List D} {j : Nat} {d : D} (h : l[j]? = some d) : l.take (j + 1) = l.take j ++ [d] := by
  rw [List.take_add_one, h]; rfl
theorem Kept.at {D : Type} {p : D → Bool} {l dk : List D} {j i : Nat} (h : Kept p l dk j i) (_hj : j < l.length) : dk[j]? = l[j]? := by
  have := congrArg (fun x => x[0]?) h.high
  simpa using this
theorem Kept.skip {D : Type} {p : D → Bool} {l dk : List D} {j i : Nat} {d : D} (h : Kept p l dk j i) (hd : l[j]? = some d) (hp : p d = true) : Kept p l dk (j + 1) i := by
  have hjl := (List.getElem?_eq_some_iff.1 hd).1
  refine ⟨h.len, by have := h.lt; omega, by omega, ?_, ?_⟩
  · rw [take_snoc hd, List.filter_append, h.low]; simp [hp]
  · have := congrArg (List.drop 1) h.high
    simpa using this
theorem Kept.keep {D : Type} {p : D → Bool} {l dk : List D} {j i : Nat} {d : D} (h : Kept p l dk j i) (hd : l[j]? = some d) (hp : p d = false) : Kept p l (dk.set i d) (j + 1) (i + 1) := by
  have hj := (List.getElem?_eq_some_iff.1 hd).1
  have hlt := h.lt
  have hl := h.len
  refine ⟨by rw [List.length_set]; exact hl, by omega, by omega, ?_, ?_⟩
  · rw [take_snoc hd, List.filter_append, ← h.low, take_snoc (l := dk.set i d) (j := i) (d := d) (by rw [List.getElem?_set]; simp; omega), List.take_set_of_le (Nat.le_refl _)]
    simp [hp]
  · rw [List.drop_set_of_lt (by omega)]
    have := congrArg (List.drop 1) h.high
    simpa using this
theorem Kept.done {D : Type} {p : D → Bool} {l dk : List D} {i : Nat} (h : Kept p l dk l.length i) : dk.take i = l.filter (fun x => !p x) ∧ (l.filter (fun x => !p x)).length = i := by
  have e := h.low
  rw [List.take_length] at e
  refine ⟨e, ?_⟩
  rw [← e, List.length_take]
  have := h.lt; have := h.len; omega
/-! ### The model: clear -/
theorem grownBy_setRow {w : World} {g : Nat} {xs : Array Value} : w.grownBy (w.setRow g xs) (some g) :=
  ⟨rfl, rfl, rfl, by simp, fun k _ hk => setRow_other w g k _ (fun e => hk (by rw [e]))⟩
section
variable {P : Program}
theorem run_clear_q (w : World) (t ty e te : TypeId) (i0 : TypeInfo) (z : Value) (size : Nat) (ht : P.underlying t = some (.slice e)) (hi : P.info? e = some i0) (hz : i0.zero = some z) (hzs : z.cells.size = size) (h1 : ∀ u ∈ z.cells, u.oneCell' = true)
    (g o n c : Nat) (cur : Array Value) (hg : w.heap[g]? = some (.cells cur te (0, 0))) (hn : 0 < n) (hs : 0 < size) (hfit : o + n * size ≤ cur.size) :
    (Builtin.clear_ #[t] ty #[.slice (some ⟨g, o, none⟩) n c]).run P w = .ok (.tuple #[]) (w.setRow g (lay cur.toList o (Builtin.zeroCells z.cells n).toList).toArray) := by
  have hzl : (Builtin.zeroCells z.cells n).toList.length = n * size := by rw [Array.length_toList, size_zeroCells, hzs]
  have hone : ∀ u ∈ (Builtin.zeroCells z.cells n).toList, u.oneCell' = true := by
    intro u hu
    simp only [Builtin.zeroCells, Array.toList_map, List.mem_map] at hu
    obtain ⟨k, _, rfl⟩ := hu
    have hlt : k % z.cells.size < z.cells.size := Nat.mod_lt _ (by omega)
    rw [getElem!_pos z.cells _ hlt]
    exact h1 _ (Array.getElem_mem hlt)
  have hst := run_storeCells_at P g o te (Builtin.zeroCells z.cells n).toList 0 cur w hg (by rw [hzl]; omega) hone
  obtain ⟨m, rfl⟩ : ∃ m, n = m + 1 := ⟨n - 1, by omega⟩
  unfold lay
  simp [Builtin.clear_, run_underlying ht, zeroValue, typeInfo, hi, hz, hst]
theorem Own.clear {w : World} {B : Nat} {e : TypeId} {g o n c i : Nat} {xs : List Value} (t : TypeId) (i0 : TypeInfo) (z : Value) (size : Nat) (ht : P.underlying t = some (.slice e)) (hi : P.info? e = some i0) (hz : i0.zero = some z) (hzs : z.cells.size = size) (h1' : z.cells.all (fun u => u.oneCell') = true) (hs : 0 < size)
    (h : Own w B e size (.slice (some ⟨g, o, none⟩) n c) n xs) (hin : i < n) :
    ∃ w', (∀ ty c', (Builtin.clear_ #[t] ty #[.slice (some ⟨g, o + i * size, none⟩) (n - i) c']).run P w = .ok (.tuple #[]) w') ∧ Own w' B e size (.slice (some ⟨g, o, none⟩) i c) i (xs.take (i * size)) ∧ w.grownBy w' (some g) := by
  have h1 : ∀ u ∈ z.cells, u.oneCell' = true := fun u hu => Array.all_eq_true_iff_forall_mem.1 h1' u hu
  rcases h.2 with ⟨h0, _⟩ | ⟨g', o', cap, cur, hv, hb, hg, h2, h3, h4, h5⟩
  · cases h0
  · injection hv with e1 _ e3
    injection e1 with e1
    injection e1 with e1 e2
    subst e1; subst e2; subst e3
    have hni : (n - i) * size + i * size = n * size := by rw [← Nat.add_mul]; congr 1; omega
    have hnc : n * size ≤ c * size := Nat.mul_le_mul_right _ h2
    have hic : i * size ≤ n * size := Nat.mul_le_mul_right _ (by omega)
    have hzl : (Builtin.zeroCells z.cells (n - i)).toList.length = (n - i) * size := by rw [Array.length_toList, size_zeroCells, hzs]
    refine ⟨_, fun ty c' => run_clear_q w t ty e e i0 z size ht hi hz hzs h1 g (o + i * size) (n - i) c' cur hg (by omega) hs (by omega), ⟨by rw [List.length_take, h.1]; omega, .inr ⟨g, o, c, _, rfl, hb, setRow_heap w g cur _ e _ hg, by omega, h3, ?_, ?_⟩⟩, grownBy_setRow⟩
    · rw [List.size_toArray, lay_length (by rw [hzl, Array.length_toList]; omega), Array.length_toList]; omega
    · show ((lay cur.toList (o + i * size) _).drop o).take (i * size) = _
      unfold lay
      rw [List.append_assoc, List.drop_append_of_le_length (by rw [List.length_take, Array.length_toList]; omega), List.take_append_of_le_length (by rw [List.length_drop, List.length_take, Array.length_toList]; omega), ← h5, List.take_take, Nat.min_eq_left hic, List.drop_take, List.take_take]
      congr 1
      omega
end
/-- The first k of it. -/
theorem Own.first {w : World} {B : Nat} {e : TypeId} {sz g o n c : Nat} {xs : List Value} (h : Own w B e sz (.slice (some ⟨g, o, none⟩) n c) n xs) {k : Nat} (hk : k ≤ n) : Own w B e sz (.slice (some ⟨g, o, none⟩) k c) k (xs.take (k * sz)) := by
  rcases h.2 with ⟨h0, _⟩ | ⟨g', o', cap, cur, hv, hb, hg, h2, h3, h4, h5⟩
  · cases h0
  · injection hv with e1 _ e3
    injection e1 with e1
    injection e1 with e1 e2
    subst e1; subst e2; subst e3
    have hic : k * sz ≤ n * sz := Nat.mul_le_mul_right _ hk
    refine ⟨by rw [List.length_take, h.1]; omega, .inr ⟨g, o, c, cur, rfl, hb, hg, by omega, h3, h4, ?_⟩⟩
    rw [← h5, List.take_take, Nat.min_eq_left hic]



def bndV (_ : World) (d : Bnd) (u : Value) : Prop := u = .agg #[.string d.name, .string d.src, .string d.dst, .int .i64 d.mn, .int .i64 d.mx]
set_option maxHeartbeats 400000 in
theorem idx_bnds (g : Nat) (caps : Array Value) (eg : ∀ args w, (callFunc g args).run Tryz.prog w = .ok (.enter g args) w) (p : Bnd → Bool) (l : List (Bnd)) (v : Value) (w : World) (hv : Sl bndL w v l)
    (hp : PredB Tryz.prog g caps bndV p w) :
    Calls Tryz.prog 171 #[v, .func (.func g) #[] caps] w fun e w' => e = .returned (.int .i64 (idxI p l)) ∧ Below w.heap.size w w' := by
  obtain ⟨A, c, rfl, hlc, hcm⟩ := hv.form
  unfold maxLen at hcm
  go_enter Tryz.func171, Tryz.ntmps171
  go_wp2_with fail
  go_loopw [8] (fun i wr => ∃ k : Nat, k ≤ l.length ∧ i = .int .i64 k ∧ Below w.heap.size w wr ∧ Hid (∀ j x, j < k → l[j]? = some x → p x = false)) (fun i _ => l.length - (intOf i).toNat)
  case atStart => exact ⟨0, Nat.zero_le _, rfl, Below.refl _ _, fun j x hj => absurd hj (Nat.not_lt_zero _)⟩
  case round =>
    obtain ⟨k, hk, rfl, hb, HA⟩ := hrel
    by_cases hlt : k < l.length
    · obtain ⟨d, hd⟩ : ∃ d, l[k]? = some d := ⟨_, List.getElem?_eq_getElem hlt⟩
      obtain ⟨b, o, rfl, hok, c0, c1, c2, c3, c4⟩ := bnd_at (hv.below hb) hd
      have hcall := hp d (.agg #[.string d.name, .string d.src, .string d.dst, .int .i64 d.mn, .int .i64 d.mx]) wr hb rfl
      have HD : Hid (l[k]? = some d) := hd
      clear hd hp hv
      cases hq : p d with
      | true =>
        rw [hq] at hcall
        have HQ : Hid (p d = true) := hq
        clear hq
        go_wp2_with (go_at_fn g; refine hcall.mono ?_; rintro e w' ⟨rfl, hb2⟩)
        go_ret
        exact ⟨ret_int (idxI_hit HA.out HD.out HQ.out).symm, hb.trans (hb2.mono hb.size)⟩
      | false =>
        rw [hq] at hcall
        have HQ : Hid (p d = false) := hq
        clear hq
        go_wp2_with (go_at_fn g; refine hcall.mono ?_; rintro e w' ⟨rfl, hb2⟩)
        go_roundw
        case rel => exact ⟨k + 1, by omega, by go_num, hb.trans (hb2.mono hb.size), miss_step HA.out HD.out HQ.out⟩
        case measure => simp [intOf]; omega
    · have hkl : k = l.length := by omega
      subst hkl
      clear hp hv
      go_wp2_with fail
      go_ret
      exact ⟨ret_int (idxI_miss HA.out).symm, hb⟩
theorem bFind1_any (d : Bnd) (name : ByteArray) (u : Value) (bk : Nat) (w : World) (hu : bndV w d u) (hc : w.cell? ⟨bk, 0, none⟩ = some (.string name)) :
    Calls Tryz.prog 172 #[u, .pointer (some ⟨bk, 0, none⟩)] w fun e w' => e = .returned (.bool (decide (d.name = name))) ∧ Below w.heap.size w w' := by
  obtain rfl : u = _ := hu
  have hlt := World.block_lt_of_cell? _ _ hc
  by_cases hq : d.name = name
  · have hd : decide (d.name = name) = true := decide_eq_true hq
    rw [hd]
    have hqb : (d.name.toList == name.toList) = true := by rw [bytes_beq]; exact hd
    clear hq hd
    go_enter Tryz.func172, Tryz.ntmps172
    go_wp2_with fail
    go_ret
    exact ⟨rfl, (Below.refl _ _).alloc (Nat.le_refl _) _⟩
  · have hd : decide (d.name = name) = false := decide_eq_false hq
    rw [hd]
    have hqb : (d.name.toList == name.toList) = false := by rw [bytes_beq]; exact hd
    clear hq hd
    go_enter Tryz.func172, Tryz.ntmps172
    go_wp2_with fail
    go_ret
    exact ⟨rfl, (Below.refl _ _).alloc (Nat.le_refl _) _⟩
/-- Where a bond of a name is. -/
def bFind (l : List Bnd) (name : ByteArray) : Int := idxI (fun b => decide (b.name = name)) l
theorem bFind_any (l : List Bnd) (name : ByteArray) (v : Value) (w : World) (hv : Sl bndL w v l) :
    Calls Tryz.prog 137 #[v, .string name] w fun e w' => e = .returned (.int .i64 (bFind l name)) ∧ Below w.heap.size w w' := by
  have hb0 : Below w.heap.size w (w.alloc (.cells #[.string name] 9)) := (Below.refl _ _).alloc (Nat.le_refl _) _
  have h1 := idx_bnds 172 #[.pointer (some ⟨w.heap.size, 0, none⟩)] (by intro args w; kernel_rfl) (fun k => decide (k.name = name)) l v _ (hv.below hb0)
    (fun d u wx hx hu => bFind1_any d name u w.heap.size wx hu (cell_below hx (by rw [World.cell?_alloc_at _ _ _ _ rfl]; rfl)))
  obtain ⟨A, c, rfl, _, _⟩ := hv.form
  clear hv
  go_enter Tryz.func137, Tryz.ntmps137
  go_wp2_with fail
  refine h1.mono ?_
  rintro e w2 ⟨rfl, hb2⟩
  go_wp2_with fail
  go_ret
  exact ⟨rfl, hb0.trans (hb2.mono (by simp))⟩
def rngB (b : Bnd) : Prop := b.mn < 0 ∨ 20 < b.mn ∨ (b.mx ≠ -1 ∧ (b.mx < b.mn ∨ 20 < b.mx))
instance (b : Bnd) : Decidable (rngB b) := by unfold rngB; infer_instance
/-- What is wrong with a bond, behind those that are right. -/
def bndE (ks : List Knd) (p : List Bnd) (b : Bnd) : Int :=
  if nameE b.name = 0 then (if 0 ≤ bFind p b.name then 7 else if kFind ks b.src < 0 ∨ kFind ks b.dst < 0 then 5 else if rngB b then 1 else 0) else nameE b.name
def bndsE (ks : List Knd) : List Bnd → List Bnd → ByteArray × Int
  | _, [] => (.empty, 0)
  | p, b :: r => if bndE ks p b = 0 then bndsE ks (p ++ [b]) r else (b.name, bndE ks p b)
/-- The fault of a schema, and with whom. -/
def scmE (s : Scm) : ByteArray × Int := if (checkE s.kinds).2 = 0 then (if 12 < s.bonds.length then (.empty, 4) else bndsE s.kinds [] s.bonds) else checkE s.kinds
theorem cell_box5 (w : World) (a b c d e : Value) (t : TypeId) : (w.alloc (.cells #[a, b, c, d, e] t)).cell? ⟨w.heap.size, 0, none⟩ = some a ∧ (w.alloc (.cells #[a, b, c, d, e] t)).cell? ⟨w.heap.size, 1, none⟩ = some b ∧
    (w.alloc (.cells #[a, b, c, d, e] t)).cell? ⟨w.heap.size, 2, none⟩ = some c ∧ (w.alloc (.cells #[a, b, c, d, e] t)).cell? ⟨w.heap.size, 3, none⟩ = some d ∧ (w.alloc (.cells #[a, b, c, d, e] t)).cell? ⟨w.heap.size, 4, none⟩ = some e :=
  ⟨by rw [World.cell?_alloc_at _ _ _ _ rfl]; rfl, by rw [World.cell?_alloc_at _ _ _ _ rfl]; rfl, by rw [World.cell?_alloc_at _ _ _ _ rfl]; rfl, by rw [World.cell?_alloc_at _ _ _ _ rfl]; rfl, by rw [World.cell?_alloc_at _ _ _ _ rfl]; rfl⟩
set_option maxRecDepth 100000 in
set_option maxHeartbeats 8000000 in
theorem bond_any (s : Scm) (i : Nat) (d : Bnd) (vk vb : Value) (w : World) (hv : ScmR w vk vb s) (hd : s.bonds[i]? = some d) :
    Calls Tryz.prog 95 #[.agg #[vk, vb], .int .i64 i] w fun e w' => e = .returned (errV (bndE s.kinds (s.bonds.take i) d)) ∧ Below w.heap.size w w' := by
  obtain ⟨Ak, ck, rfl, _, _⟩ := hv.1.form
  obtain ⟨Ab, cb, rfl, hlc, hcm⟩ := hv.2.form
  obtain ⟨b, o, rfl, hok, c0, c1, c2, c3, c4⟩ := bnd_at hv.2 hd
  have hil := (List.getElem?_eq_some_iff.1 hd).1
  have hb0 : Below w.heap.size w (w.alloc (.cells #[.slice Ak s.kinds.length ck, .slice (some ⟨b, o, none⟩) s.bonds.length cb] 25)) := (Below.refl _ _).alloc (Nat.le_refl _) _
  obtain ⟨x0, x1⟩ := cell_box2 w (.slice Ak s.kinds.length ck) (.slice (some ⟨b, o, none⟩) s.bonds.length cb) 25
  have HV0 := Lib.hid (show ScmR _ _ _ s from ⟨hv.1.below hb0, hv.2.below hb0⟩)
  have d0 := cell_below hb0 c0
  have d1 := cell_below hb0 c1
  have d2 := cell_below hb0 c2
  have d3 := cell_below hb0 c3
  have d4 := cell_below hb0 c4
  have HE : Hid (bndE s.kinds (s.bonds.take i) d = if nameE d.name = 0 then (if 0 ≤ bFind (s.bonds.take i) d.name then 7 else if kFind s.kinds d.src < 0 ∨ kFind s.kinds d.dst < 0 then 5 else if rngB d then 1 else 0) else nameE d.name) := rfl
  have hw0 := hb0.size
  have hil' : (i : Int) < (s.bonds.length : Int) := by omega
  clear hv c0 c1 c2 c3 c4 hd
  have hsz0 : (w.alloc (.cells #[.slice Ak s.kinds.length ck, .slice (some ⟨b, o, none⟩) s.bonds.length cb] 25)).heap.size = w.heap.size + 1 := by simp
  go_enter Tryz.func95, Tryz.ntmps95
  go_wp2_with fail
  generalize w.alloc (.cells #[.slice Ak s.kinds.length ck, .slice (some ⟨b, o, none⟩) s.bonds.length cb] 25) = w0 at *
  have hb1 : Below w0.heap.size w0 (w0.alloc (.cells #[.string d.name, .string d.src, .string d.dst, .int .i64 d.mn, .int .i64 d.mx] 37)) := (Below.refl _ _).alloc (Nat.le_refl _) _
  obtain ⟨z0, z1, z2, z3, z4⟩ := cell_box5 w0 (.string d.name) (.string d.src) (.string d.dst) (.int .i64 d.mn) (.int .i64 d.mx) 37
  rw [hsz0] at z0 z1 z2 z3 z4
  have x0 := cell_below hb1 x0
  have x1 := cell_below hb1 x1
  have hw1 := hb1.size
  generalize w0.alloc (.cells #[.string d.name, .string d.src, .string d.dst, .int .i64 d.mn, .int .i64 d.mx] 37) = w1 at *
  refine (name_any d.name w1 hok.1).mono ?_
  rintro e w2 ⟨rfl, hb2⟩
  have hb02 := hb1.trans (hb2.mono hw1)
  have hB2 := hb0.trans (hb02.mono hw0)
  have HV2 := Lib.hid (show ScmR w2 _ _ s from ⟨HV0.out.1.below hb02, HV0.out.2.below hb02⟩)
  have x0 := cell_below hb2 x0
  have x1 := cell_below hb2 x1
  have z0 := cell_below hb2 z0
  have z1 := cell_below hb2 z1
  have z2 := cell_below hb2 z2
  have z3 := cell_below hb2 z3
  have z4 := cell_below hb2 z4
  have hw2 := hB2.size
  clear d0 d1 d2 d3 d4 hb02 hb2 hb1
  by_cases he : nameE d.name = 0
  case neg =>
    have HF : Hid (errV (bndE s.kinds (s.bonds.take i) d) = .iface 118 (.int .i64 (nameE d.name))) := by unfold Hid; rw [HE.out, if_neg he]; exact errV_some he
    rw [errV_some he]
    clear he HE
    go_wp2_with fail
    go_ret
    exact ⟨by rw [HF.out]; rfl, hB2⟩
  have HE2 : Hid (bndE s.kinds (s.bonds.take i) d = if 0 ≤ bFind (s.bonds.take i) d.name then 7 else if kFind s.kinds d.src < 0 ∨ kFind s.kinds d.dst < 0 then 5 else if rngB d then 1 else 0) := by unfold Hid; rw [HE.out, if_pos he]
  rw [errV_zero he]
  have hic : (i : Int) ≤ (cb : Int) := by omega
  clear he HE
  go_wp2_with fail
  refine wp_mid_k 6 _ rfl rfl (by kernel_rfl) (by kernel_rfl) ?_
  simp only [List.take_succ_cons, List.take_zero, List.drop_succ_cons, List.drop_zero]
  repeat (go_big_quiet_step (fail))
  refine wpQuiet_nil ?_
  intro _ hw'
  obtain ⟨nq, hw''⟩ := hw'
  subst hw''
  intro K hK
  have hf := bFind_any (s.bonds.take i) d.name (.slice (some ⟨b, o, none⟩) i cb) (w2.drewN nq) ((Sl.take HV2.out.2 (by omega)).below (below_drewN (Below.refl _ _) nq))
  generalize bFind (s.bonds.take i) d.name = q at *
  go_wp2_with fail
  refine hf.mono ?_
  clear hf
  rintro e w3 ⟨rfl, hb3⟩
  have hB3' := (below_drewN (Below.refl w2.heap.size w2) nq).trans hb3
  have x0 := cell_below hB3' x0
  have x1 := cell_below hB3' x1
  have z0 := cell_below hB3' z0
  have z1 := cell_below hB3' z1
  have z2 := cell_below hB3' z2
  have z3 := cell_below hB3' z3
  have z4 := cell_below hB3' z4
  have HV3 := Lib.hid (show Sl kndL w3 _ s.kinds from HV2.out.1.below hB3')
  have hB3 := hB2.trans (hB3'.mono hw2)
  clear hb3 hB3' HV2 hB2
  refine hK _ _ ?_
  repeat (go_big_quiet_step (fail))
  refine wpQuiet_nil ?_
  intro _ hw'
  obtain ⟨nq2, hw''⟩ := hw'
  subst hw''
  clear hK
  by_cases hq : 0 ≤ q
  · have HF : Hid (bndE s.kinds (s.bonds.take i) d = 7) := by unfold Hid; rw [HE2.out, if_pos hq]
    clear HE2
    go_wp2_with fail
    go_ret
    exact ⟨by rw [HF.out]; rfl, below_drewN hB3 _⟩
  have hq' : q < 0 := by omega
  have HE3 : Hid (bndE s.kinds (s.bonds.take i) d = if kFind s.kinds d.src < 0 ∨ kFind s.kinds d.dst < 0 then 5 else if rngB d then 1 else 0) := by unfold Hid; rw [HE2.out, if_neg hq]
  have hB4 := below_drewN hB3 nq2
  have HV4 := Lib.hid (HV3.out.below (below_drewN (Below.refl w3.heap.size w3) nq2))
  have hk1 := kFind_any s.kinds d.src _ _ HV4.out
  clear HE2 hq HV3 hB3
  have hdw := below_drewN (Below.refl w3.heap.size w3) nq2
  have x0 := cell_below hdw x0
  have x1 := cell_below hdw x1
  have z0 := cell_below hdw z0
  have z1 := cell_below hdw z1
  have z2 := cell_below hdw z2
  have z3 := cell_below hdw z3
  have z4 := cell_below hdw z4
  clear hdw
  generalize w3.drewN nq2 = w4 at *
  generalize kFind s.kinds d.src = a at *
  go_wp2_with fail
  refine hk1.mono ?_
  clear hk1
  rintro e w5 ⟨rfl, hb5⟩
  have x0 := cell_below hb5 x0
  have x1 := cell_below hb5 x1
  have z2 := cell_below hb5 z2
  have z3 := cell_below hb5 z3
  have z4 := cell_below hb5 z4
  have hB5 := hB4.trans (hb5.mono hB4.size)
  by_cases ha : a < 0
  · have HF : Hid (bndE s.kinds (s.bonds.take i) d = 5) := by unfold Hid; rw [HE3.out, if_pos (.inl ha)]
    clear HE3
    go_wp2_with fail
    go_ret
    exact ⟨by rw [HF.out]; rfl, hB5⟩
  have ha' : 0 ≤ a := by omega
  have hk2 := kFind_any s.kinds d.dst _ _ (HV4.out.below hb5)
  generalize kFind s.kinds d.dst = c at *
  go_wp2_with fail
  refine hk2.mono ?_
  clear hk2
  rintro e w6 ⟨rfl, hb6⟩
  have z3 := cell_below hb6 z3
  have z4 := cell_below hb6 z4
  have hB6 := hB5.trans (hb6.mono hB5.size)
  clear x0 x1 z0 z1 z2 hb5 hb6 hB5 hB4 HV4
  by_cases hc : c < 0
  · have HF : Hid (bndE s.kinds (s.bonds.take i) d = 5) := by unfold Hid; rw [HE3.out, if_pos (.inr hc)]
    clear HE3
    go_wp2_with fail
    go_ret
    exact ⟨by rw [HF.out]; rfl, hB6⟩
  have hc' : 0 ≤ c := by omega
  have HE4 : Hid (bndE s.kinds (s.bonds.take i) d = if rngB d then 1 else 0) := by unfold Hid; rw [HE3.out, if_neg (by omega)]
  have HRB : Hid (rngB d ↔ (d.mn < 0 ∨ 20 < d.mn ∨ (d.mx ≠ -1 ∧ (d.mx < d.mn ∨ 20 < d.mx)))) := Iff.rfl
  clear HE3 ha hc
  generalize d.mn = mn at *
  generalize d.mx = mx at *
  by_cases hr : rngB d
  · have HF : Hid (bndE s.kinds (s.bonds.take i) d = 1) := by unfold Hid; rw [HE4.out, if_pos hr]
    have hr2 := HRB.out.1 hr
    clear HE4 HRB hr
    by_cases e1 : mn < 0
    · clear hr2
      go_wp2_with fail
      go_ret
      exact ⟨by rw [HF.out]; rfl, hB6⟩
    have e1' : 0 ≤ mn := by omega
    by_cases e2 : 20 < mn
    · clear hr2 e1
      go_wp2_with fail
      go_ret
      exact ⟨by rw [HF.out]; rfl, hB6⟩
    have e2' : mn ≤ 20 := by omega
    have e3 : (mx != -1) = true := bne_iff_ne.2 (by omega)
    have e3' : ¬ mx = -1 := by omega
    by_cases e4 : mx < mn
    · clear hr2 e1 e2
      go_wp2_with fail
      go_ret
      exact ⟨by rw [HF.out]; rfl, hB6⟩
    have e4' : mn ≤ mx := by omega
    have e5 : 20 < mx := by omega
    clear hr2 e1 e2 e4
    go_wp2_with fail
    go_ret
    exact ⟨by rw [HF.out]; rfl, hB6⟩
  · have HF : Hid (bndE s.kinds (s.bonds.take i) d = 0) := by unfold Hid; rw [HE4.out, if_neg hr]
    have hr2 : ¬ (mn < 0 ∨ 20 < mn ∨ (mx ≠ -1 ∧ (mx < mn ∨ 20 < mx))) := fun h => hr (HRB.out.2 h)
    have e1' : 0 ≤ mn := by omega
    have e2' : mn ≤ 20 := by omega
    clear HE4 HRB hr
    by_cases e3 : mx = -1
    · subst e3
      clear hr2
      go_wp2_with fail
      go_ret
      exact ⟨by rw [HF.out]; rfl, hB6⟩
    have e3' : (mx != -1) = true := bne_iff_ne.2 e3
    have e4' : mn ≤ mx := by omega
    have e5' : mx ≤ 20 := by omega
    clear hr2
    go_wp2_with fail
    go_ret
    exact ⟨by rw [HF.out]; rfl, hB6⟩
end Go.Proofs.YtdmpkgiijddcdaaGreatDoor
