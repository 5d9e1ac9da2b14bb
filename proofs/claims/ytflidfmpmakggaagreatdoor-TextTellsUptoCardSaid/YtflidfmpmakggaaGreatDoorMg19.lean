/- Parts: DeltaP, DelA, EmptyP, OpR, DbP, RsP, RsT, RrA. -/
import Derived.Test.YtflidfmpmakggaaGreatDoorMg07
import Derived.Test.YtflidfmpmakggaaGreatDoorMg15
import Derived.Test.YtflidfmpmakggaaGreatDoorMg04
import Derived.Test.YtflidfmpmakggaaGreatDoorMg06
import Derived.Test.YtflidfmpmakggaaGreatDoorMg02
import Derived.Maps.AppendAt
import Derived.Test.YtflidfmpmakggaaGreatDoorMg10
import Derived.Deep.DeepCutAuto
import Derived.Test.YtflidfmpmakggaaGreatDoorMg17
import Derived.Test.YtflidfmpmakggaaGreatDoorMg18
/- Plain: what an op makes of a graph; graphs that a call owns. -/
namespace Go.Proofs.YtflidfmpmakggaaGreatDoor
open Go Go.RowKit

def recAt (l : List Nod) (id : Int) : List Prp := match l[fpos l id]? with | some n => n.props | none => []
theorem OwnNods.len {w : World} {B : Nat} : ∀ {l : List Nod} {xs : List Value}, OwnNods w B l xs → xs.length = l.length * 3
  | [], xs, h => by rw [show xs = [] from h]; rfl
  | d :: l, xs, h => by
    obtain ⟨u, ys, rfl, _, _, _, _, h5⟩ := h
    have := h5.len
    simp only [List.length_append, List.length_cons, List.length_nil, this]
    omega
theorem OwnNods.append {w : World} {B : Nat} : ∀ {l m : List Nod} {xs ys : List Value}, OwnNods w B l xs → OwnNods w B m ys → OwnNods w B (l ++ m) (xs ++ ys)
  | [], m, xs, ys, h, k => by rw [show xs = [] from h]; exact k
  | d :: l, m, xs, ys, h, k => by
    obtain ⟨u, zs, rfl, h1, h2, h3, h4, h5⟩ := h
    exact ⟨u, zs ++ ys, by simp, h1, h2, h3, h4, h5.append k⟩
theorem OwnNods.split {w : World} {B : Nat} : ∀ {l : List Nod} {xs : List Value} (i : Nat), i ≤ l.length → OwnNods w B l xs → OwnNods w B (l.take i) (xs.take (i * 3)) ∧ OwnNods w B (l.drop i) (xs.drop (i * 3))
  | l, xs, 0, _, h => by simp only [List.take_zero, Nat.zero_mul, List.drop_zero]; exact ⟨rfl, h⟩
  | [], xs, i + 1, hi, h => by simp at hi
  | d :: l, xs, i + 1, hi, h => by
    obtain ⟨u, ys, rfl, h1, h2, h3, h4, h5⟩ := h
    obtain ⟨k1, k2⟩ := h5.split i (by simpa using hi)
    have e : (i + 1) * 3 = i * 3 + 1 + 1 + 1 := by omega
    rw [e]
    exact ⟨⟨u, ys.take (i * 3), rfl, h1, h2, h3, h4, k1⟩, k2⟩
theorem OwnNods.one {w : World} {B : Nat} {d : Nod} {u : Value} (h1 : I64 d.id) (h2 : Sm d.kind) (h3 : ∀ p ∈ d.props, p.ok) (h4 : Own w B 181 4 u d.props.length (d.props.flatMap Prp.enc)) :
    OwnNods w B [d] [.int .i64 d.id, .string d.kind, u] := ⟨u, [], rfl, h1, h2, h3, h4, rfl⟩
theorem OwnNods.get {w : World} {B : Nat} {l : List Nod} {xs : List Value} {i : Nat} {d : Nod} (h : OwnNods w B l xs) (hi : l[i]? = some d) :
    ∃ u, xs[i * 3]? = some (.int .i64 d.id) ∧ xs[i * 3 + 1]? = some (.string d.kind) ∧ xs[i * 3 + 2]? = some u ∧ I64 d.id ∧ Sm d.kind ∧ (∀ p ∈ d.props, p.ok) ∧ Own w B 181 4 u d.props.length (d.props.flatMap Prp.enc) := by
  have hil := (List.getElem?_eq_some_iff.1 hi).1
  have h2 := (h.split i (by omega)).2
  rw [drop_cons hi] at h2
  obtain ⟨u, ys, he, h1, h3, h4, h5, _⟩ := h2
  have hx : ∀ j, xs[i * 3 + j]? = (xs.drop (i * 3))[j]? := fun j => (List.getElem?_drop ..).symm
  refine ⟨u, ?_, ?_, ?_, h1, h3, h4, h5⟩
  · have := hx 0; rw [Nat.add_zero] at this; rw [this, he]; rfl
  · rw [hx 1, he]; rfl
  · rw [hx 2, he]; rfl
theorem OwnNods.put {w : World} {B : Nat} {r : List Prp} {v : Value} (h3 : ∀ p ∈ r, p.ok) (h4 : Own w B 181 4 v r.length (r.flatMap Prp.enc)) : ∀ {l : List Nod} {xs : List Value} {i : Nat} {d : Nod}, OwnNods w B l xs → l[i]? = some d → OwnNods w B (l.set i ⟨d.id, d.kind, r⟩) (xs.set (i * 3 + 2) v)
  | [], xs, i, d, h, hi => by simp at hi
  | e :: l, xs, 0, d, h, hi => by
    simp at hi
    subst hi
    obtain ⟨u, ys, rfl, h1, h2, _, _, h5⟩ := h
    exact ⟨v, ys, rfl, h1, h2, h3, h4, h5⟩
  | e :: l, xs, i + 1, d, h, hi => by
    obtain ⟨u, ys, rfl, h1, h2, k3, k4, h5⟩ := h
    have ih := OwnNods.put h3 h4 h5 (by simpa using hi)
    have e : (i + 1) * 3 + 2 = i * 3 + 2 + 1 + 1 + 1 := by omega
    rw [e]
    exact ⟨u, ys.set (i * 3 + 2) v, rfl, h1, h2, k3, k4, ih⟩

/-! ### Lists -/
section
variable {D : Type} {n : Nat} {enc : D → List Value}
end

/-! ### What is kept -/
structure Kept {D : Type} (p : D → Bool) (l dk : List D) (j i : Nat) : Prop where
  len : dk.length = l.length
  lt : i < j
  le : j ≤ l.length
  low : dk.take i = (l.take j).filter (fun x => !p x)
  high : dk.drop j = l.drop j
theorem take_snoc {D : Type} {l : List D} {j : Nat} {d : D} (h : l[j]? = some d) : l.take (j + 1) = l.take j ++ [d] := by
  rw [List.take_add_one, h]; rfl
theorem Kept.at {D : Type} {p : D → Bool} {l dk : List D} {j i : Nat} (h : Kept p l dk j i) (_hj : j < l.length) : dk[j]? = l[j]? := by
  have := congrArg (fun x => x[0]?) h.high
  simpa using this
theorem Kept.skip {D : Type} {p : D → Bool} {l dk : List D} {j i : Nat} {d : D} (h : Kept p l dk j i) (hd : l[j]? = some d) (hp : p d = true) : Kept p l dk (j + 1) i := by
  have hjl := (List.getElem?_eq_some_iff.1 hd).1
  refine ⟨h.len, by have := h.lt; omega, by omega, ?_, ?_⟩
  · rw [take_snoc hd, List.filter_append, h.low]; simp [hp]
  · have := congrArg (List.drop 1) h.high
    simpa using this
theorem Kept.keep {D : Type} {p : D → Bool} {l dk : List D} {j i : Nat} {d : D} (h : Kept p l dk j i) (hd : l[j]? = some d) (hp : p d = false) : Kept p l (dk.set i d) (j + 1) (i + 1) := by
  have hj := (List.getElem?_eq_some_iff.1 hd).1
  have hlt := h.lt
  have hl := h.len
  refine ⟨by rw [List.length_set]; exact hl, by omega, by omega, ?_, ?_⟩
  · rw [take_snoc hd, List.filter_append, ← h.low, take_snoc (l := dk.set i d) (j := i) (d := d) (by rw [List.getElem?_set]; simp; omega), List.take_set_of_le (Nat.le_refl _)]
    simp [hp]
  · rw [List.drop_set_of_lt (by omega)]
    have := congrArg (List.drop 1) h.high
    simpa using this
theorem Kept.done {D : Type} {p : D → Bool} {l dk : List D} {i : Nat} (h : Kept p l dk l.length i) : dk.take i = l.filter (fun x => !p x) ∧ (l.filter (fun x => !p x)).length = i := by
  have e := h.low
  rw [List.take_length] at e
  refine ⟨e, ?_⟩
  rw [← e, List.length_take]
  have := h.lt; have := h.len; omega
/-! ### The model: clear -/
theorem grownBy_setRow {w : World} {g : Nat} {xs : Array Value} : w.grownBy (w.setRow g xs) (some g) :=
  ⟨rfl, rfl, rfl, by simp, fun k _ hk => setRow_other w g k _ (fun e => hk (by rw [e]))⟩
section
variable {P : Program}
theorem run_clear_q (w : World) (t ty e te : TypeId) (i0 : TypeInfo) (z : Value) (size : Nat) (ht : P.underlying t = some (.slice e)) (hi : P.info? e = some i0) (hz : i0.zero = some z) (hzs : z.cells.size = size) (h1 : ∀ u ∈ z.cells, u.oneCell' = true)
    (g o n c : Nat) (cur : Array Value) (hg : w.heap[g]? = some (.cells cur te (0, 0))) (hn : 0 < n) (hs : 0 < size) (hfit : o + n * size ≤ cur.size) :
    (Builtin.clear_ #[t] ty #[.slice (some ⟨g, o, none⟩) n c]).run P w = .ok (.tuple #[]) (w.setRow g (lay cur.toList o (Builtin.zeroCells z.cells n).toList).toArray) := by
  have hzl : (Builtin.zeroCells z.cells n).toList.length = n * size := by rw [Array.length_toList, size_zeroCells, hzs]
  have hone : ∀ u ∈ (Builtin.zeroCells z.cells n).toList, u.oneCell' = true := by
    intro u hu
    simp only [Builtin.zeroCells, Array.toList_map, List.mem_map] at hu
    obtain ⟨k, _, rfl⟩ := hu
    have hlt : k % z.cells.size < z.cells.size := Nat.mod_lt _ (by omega)
    rw [getElem!_pos z.cells _ hlt]
    exact h1 _ (Array.getElem_mem hlt)
  have hst := run_storeCells_at P g o te (Builtin.zeroCells z.cells n).toList 0 cur w hg (by rw [hzl]; omega) hone
  obtain ⟨m, rfl⟩ : ∃ m, n = m + 1 := ⟨n - 1, by omega⟩
  unfold lay
  simp [Builtin.clear_, run_underlying ht, zeroValue, typeInfo, hi, hz, hst]
theorem Own.clear {w : World} {B : Nat} {e : TypeId} {g o n c i : Nat} {xs : List Value} (t : TypeId) (i0 : TypeInfo) (z : Value) (size : Nat) (ht : P.underlying t = some (.slice e)) (hi : P.info? e = some i0) (hz : i0.zero = some z) (hzs : z.cells.size = size) (h1' : z.cells.all (fun u => u.oneCell') = true) (hs : 0 < size)
    (h : Own w B e size (.slice (some ⟨g, o, none⟩) n c) n xs) (hin : i < n) :
    ∃ w', (∀ ty c', (Builtin.clear_ #[t] ty #[.slice (some ⟨g, o + i * size, none⟩) (n - i) c']).run P w = .ok (.tuple #[]) w') ∧ Own w' B e size (.slice (some ⟨g, o, none⟩) i c) i (xs.take (i * size)) ∧ w.grownBy w' (some g) := by
  have h1 : ∀ u ∈ z.cells, u.oneCell' = true := fun u hu => Array.all_eq_true_iff_forall_mem.1 h1' u hu
  rcases h.2 with ⟨h0, _⟩ | ⟨g', o', cap, cur, hv, hb, hg, h2, h3, h4, h5⟩
  · cases h0
  · injection hv with e1 _ e3
    injection e1 with e1
    injection e1 with e1 e2
    subst e1; subst e2; subst e3
    have hni : (n - i) * size + i * size = n * size := by rw [← Nat.add_mul]; congr 1; omega
    have hnc : n * size ≤ c * size := Nat.mul_le_mul_right _ h2
    have hic : i * size ≤ n * size := Nat.mul_le_mul_right _ (by omega)
    have hzl : (Builtin.zeroCells z.cells (n - i)).toList.length = (n - i) * size := by rw [Array.length_toList, size_zeroCells, hzs]
    refine ⟨_, fun ty c' => run_clear_q w t ty e e i0 z size ht hi hz hzs h1 g (o + i * size) (n - i) c' cur hg (by omega) hs (by omega), ⟨by rw [List.length_take, h.1]; omega, .inr ⟨g, o, c, _, rfl, hb, setRow_heap w g cur _ e _ hg, by omega, h3, ?_, ?_⟩⟩, grownBy_setRow⟩
    · rw [List.size_toArray, lay_length (by rw [hzl, Array.length_toList]; omega), Array.length_toList]; omega
    · show ((lay cur.toList (o + i * size) _).drop o).take (i * size) = _
      unfold lay
      rw [List.append_assoc, List.drop_append_of_le_length (by rw [List.length_take, Array.length_toList]; omega), List.take_append_of_le_length (by rw [List.length_drop, List.length_take, Array.length_toList]; omega), ← h5, List.take_take, Nat.min_eq_left hic, List.drop_take, List.take_take]
      congr 1
      omega
end
/-- The first k of it. -/
theorem Own.first {w : World} {B : Nat} {e : TypeId} {sz g o n c : Nat} {xs : List Value} (h : Own w B e sz (.slice (some ⟨g, o, none⟩) n c) n xs) {k : Nat} (hk : k ≤ n) : Own w B e sz (.slice (some ⟨g, o, none⟩) k c) k (xs.take (k * sz)) := by
  rcases h.2 with ⟨h0, _⟩ | ⟨g', o', cap, cur, hv, hb, hg, h2, h3, h4, h5⟩
  · cases h0
  · injection hv with e1 _ e3
    injection e1 with e1
    injection e1 with e1 e2
    subst e1; subst e2; subst e3
    have hic : k * sz ≤ n * sz := Nat.mul_le_mul_right _ hk
    refine ⟨by rw [List.length_take, h.1]; omega, .inr ⟨g, o, c, cur, rfl, hb, hg, by omega, h3, h4, ?_⟩⟩
    rw [← h5, List.take_take, Nat.min_eq_left hic]

open Go

/-! ### What makes a graph right -/
/-! ### Records -/

/-! ### Rows in one strict order -/
section
variable {D : Type} {R : D → D → Prop}
end
/-! ### What is there, by name -/


theorem prpT_info : (Tryz.prog.info? 181).map (fun i => (i.zero, i.size, i.bytes)) = some (some (.agg #[.string .empty, .int .i64 0, .int .i64 0, .string .empty]), 4, 48) := by kernel_rfl
theorem one_prpE (d : Prp) : ∀ u ∈ d.enc, u.oneCell' = true := fun u hu => by simp [Prp.enc] at hu; rcases hu with rfl | rfl | rfl | rfl <;> rfl


theorem noB_step {c : UInt8} {l : List UInt8} {k : Nat} {x : UInt8} (h : noB c (l.take k)) (hx : l[k]? = some x) (hne : x ≠ c) : noB c (l.take (k + 1)) := by
  rw [take_next hx]
  intro y hy
  rcases List.mem_append.1 hy with h1 | h1
  · exact h y h1
  · rw [List.mem_singleton.1 h1]; exact hne
theorem cut_at {c : UInt8} {l : List UInt8} {k : Nat} (h : noB c (l.take k)) (hx : l[k]? = some c) : Lib.cut l [c] = (l.take k, l.drop (k + 1), true) := by
  have e : l = l.take k ++ c :: l.drop (k + 1) := by
    conv => lhs; rw [← List.take_append_drop k l, drop_cons_of hx]
  conv => lhs; rw [e]
  exact cut_sign h
theorem cut_none {c : UInt8} {l : List UInt8} (h : noB c (l.take l.length)) : Lib.cut l [c] = (l, [], false) := by
  rw [List.take_length] at h; exact cut_no h
theorem readV_ok2 {l : List UInt8} (h : readE l = 0) : (readV l).ok := val_ok (show_read h).1
set_option maxRecDepth 100000 in
set_option maxHeartbeats 16000000 in
theorem rreadRec_any (s : ByteArray) (hs : Sm s) (w : World) :
    Calls Tryz.prog 55 #[.string s] w fun e w' => ∃ A k, e = .returned (.tuple #[.slice A (readRV s.data.toList).length k, .int .i64 (readRE s.data.toList)]) ∧ OwnP w' w.heap.size (.slice A (readRV s.data.toList).length k) (readRV s.data.toList) ∧ Below w.heap.size w w' := by
  obtain ⟨i0, ei, ez, ez1, ez2⟩ := info_parts prpT_info
  have hle := len_size s
  have e1 : (bs [45]).toList = [45] := by decide +kernel
  by_cases h1 : s = bs [45]
  · have HN : Hid (readRE s.data.toList = 0 ∧ readRV s.data.toList = []) := by
      unfold Hid; rw [h1, bs_list]; exact ⟨rfl, rfl⟩
    have h2 : s.toList = [45] := by rw [h1]; exact e1
    clear h1 e1 hle hs
    go_enter Tryz.func55, Tryz.ntmps55
    -- the answer: no record, the fault 0; above w: Below.refl _ _
    go_wp2_with fail
    go_ret2
    exact ⟨none, 0, by rw [HN.out.1, HN.out.2]; rfl, by rw [HN.out.2]; exact OwnP.nil, Below.refl _ _⟩
  have n1 : ¬ s.toList = [45] := fun e => h1 (by rw [← bytes_eq, e1]; exact e)
  have b1 : (s.toList == [45]) = false := beq_eq_false_iff_ne.2 n1
  have hl1 : s.data.toList ≠ [45] := fun e => h1 (by rw [← e, bs_of])
  have HRE : Hid (readRE s.data.toList = match propsP (cutL 44 s.data.toList) with | none => 2 | some r => recE r) := by
    unfold Hid readRE; rw [if_neg hl1]; rfl
  have HRV : Hid (readRV s.data.toList = match propsP (cutL 44 s.data.toList) with | none => [] | some r => if recE r = 0 then r else []) := by
    unfold Hid readRV; rw [if_neg hl1]; rfl
  have hx := rcut_any s 44 (by decide) true w hs
  rw [rcut_quotes] at hx
  have HPL : Hid (∀ x ∈ cutL 44 s.data.toList, x.length ≤ 1048576) := fun x hx => by
    have := cutF_lens 44 s.data.toList false [] x hx
    unfold Sm at hs
    simp at this
    omega
  unfold Sm at hs
  have hcl : (cutL 44 s.data.toList).length ≤ 1048577 := by have := cutL_len 44 s.data.toList; omega
  generalize cutL 44 s.data.toList = P at *
  clear h1 e1 hl1 n1
  rw [show (Value.int .u8 ((44 : UInt8).toNat : Int)) = .int .u8 44 from rfl] at hx
  go_enter Tryz.func55, Tryz.ntmps55
  go_wp2_with fail
  refine hx.mono ?_
  clear hx b1
  rintro e w1 ⟨A1, c1, rfl, how, hb1⟩
  have HSL := Lib.hid (own_words how HPL.out)
  obtain ⟨B, hBe⟩ : ∃ B, B = w1.heap.size := ⟨_, rfl⟩
  have HBE := Lib.hid hBe
  clear how hBe
  go_wp2_with fail
  go_loopw [4, 6] (fun x4 i wr => ∃ (k : Nat) (u : List Prp), k ≤ P.length ∧ u.length = k ∧ i = .int .i64 k ∧ Below B w1 wr ∧ B ≤ wr.heap.size ∧ Hid (propsP (P.take k) = some u ∧ ∀ p ∈ u, p.ok) ∧ Hid (Own wr B 181 4 x4 u.length (u.flatMap Prp.enc))) (fun _ i _ => P.length - (intOf i).toNat)
  case atStart => exact ⟨0, [], Nat.zero_le _, rfl, rfl, Below.refl _ _, by rw [HBE.out]; exact Nat.le_refl _, ⟨rfl, fun _ h => by cases h⟩, Own.nil _ _ _ _⟩
  case round =>
    obtain ⟨k, u, hk, hu, rfl, hbr, hBr, HP, HO⟩ := hrel
    have hbr' : Below w1.heap.size w1 wr := by rw [← HBE.out]; exact hbr
    obtain ⟨wo, hwo⟩ : ∃ wo : World, wo = wr := ⟨_, rfl⟩
    subst hwo
    obtain ⟨A4, c4, rfl, hc4, _⟩ := HO.out.form
    by_cases hlt : k < P.length
    · obtain ⟨x, hx⟩ : ∃ x, P[k]? = some x := ⟨_, List.getElem?_eq_getElem hlt⟩
      have hlt' : (k : Int) < (P.length : Int) := by omega
      obtain ⟨gb, o, rfl, hxs, q0⟩ := str_at HSL.out (d := bs x) (by rw [List.getElem?_map, hx]; rfl)
      have Q0 := Lib.hid q0
      have q0 := cell_below hbr' q0
      obtain ⟨t1, t2⟩ := propsP_take HP.out.1 hx
      have T1 := Lib.hid t1
      have T2 := Lib.hid t2
      have hxz := bs_size x
      have hxl : x.length ≤ 1048576 := HPL.out x (List.mem_of_getElem? hx)
      have HPI : Hid (pieceP x = if (Lib.cut x [61]).2.2 = true ∧ readE (Lib.cut x [61]).2.1 = 0 then some ⟨bs (Lib.cut x [61]).1, readV (Lib.cut x [61]).2.1⟩ else none) := rfl
      have hbF := hb1.trans (hbr'.mono hb1.size)
      clear t1 t2 hx hxs
      go_wp2_with fail
      go_loop [7] (fun j => ∃ n : Nat, n ≤ x.length ∧ j = .int .i64 n ∧ Hid (noB 61 (x.take n))) (fun j => x.length - (intOf j).toNat)
      case atStart => exact ⟨0, Nat.zero_le _, rfl, fun y hy => by simp at hy⟩
      case round =>
        obtain ⟨n, hn, rfl, HNB⟩ := hrel
        by_cases hnl : n < x.length
        · have hnl' : (n : Int) < ((bs x).size : Int) := by rw [hxz]; omega
          have hnl2 : n < (bs x).size := by rw [hxz]; omega
          have hyb := bytes_at (bs x) n hnl2
          rw [bs_list] at hyb
          have HYB := Lib.hid hyb
          clear hyb
          by_cases h61 : (bs x)[n] = 61
          · have c1 : (((bs x)[n].toNat : Int) != 61) = false := by rw [h61]; rfl
            have c2 : ((bs x)[n].toNat : Int) = 61 := by rw [h61]; rfl
            have HCT : Hid (Lib.cut x [61] = (x.take n, x.drop (n + 1), true)) := cut_at HNB.out (by rw [HYB.out, h61])
            have hnn : ((n : Int) == ((bs x).size : Int)) = false := by rw [beq_eq_false_iff_ne, hxz]; omega
            have hnp : ¬ (n : Int) = ((bs x).size : Int) := by rw [hxz]; omega
            have hn1 : (n : Int) + 1 ≤ ((bs x).size : Int) := by rw [hxz]; omega
            have hX : (bs x).extract (n + 1) (bs x).size = bs (x.drop (n + 1)) := by
              rw [ext_list, bs_list, hxz, List.take_of_length_le (by rw [List.length_drop]; omega)]
            have hsm : Sm ((bs x).extract (n + 1) (bs x).size) := by unfold Sm; rw [hX, bs_size, List.length_drop]; omega
            have hcall := rread_any ((bs x).extract (n + 1) (bs x).size) hsm wo
            rw [show ((bs x).extract (n + 1) (bs x).size).data.toList = x.drop (n + 1) by rw [hX, bs_list]] at hcall
            have HPE : Hid (pieceP x = if readE (x.drop (n + 1)) = 0 then some ⟨bs (x.take n), readV (x.drop (n + 1))⟩ else none) := by
              unfold Hid; rw [HPI.out, HCT.out]; simp only [true_and]
            have HVO : Hid (readE (x.drop (n + 1)) = 0 → (readV (x.drop (n + 1))).ok) := fun h => readV_ok2 h
            have HNX : Hid ((bs x).extract 0 n = bs (x.take n)) := by unfold Hid; rw [ext_list, bs_list, List.drop_zero, Nat.sub_zero]
            have HNL : Hid ((bs (x.take n)).size ≤ 1048576) := by unfold Hid; rw [bs_size, List.length_take]; omega
            generalize readV (x.drop (n + 1)) = V at *
            generalize readE (x.drop (n + 1)) = E at *
            clear h61 HPI HCT HNB hX hsm HYB
            go_wp2_with fail
            refine hcall.mono ?_
            clear hcall
            rintro e w2 ⟨rfl, hb2⟩
            have ha3 : Below w2.heap.size w2 (w2.alloc (.cells #[.int .i64 V.ty, .int .i64 V.n, .string V.s] 70)) := (Below.refl _ _).alloc (Nat.le_refl _) _
            have hbx := heap_alloc_new w2 (.cells #[.int .i64 V.ty, .int .i64 V.n, .string V.s] 70)
            have hb3 := hb2.trans (ha3.mono hb2.size)
            have hBx := hbr.trans (hb3.mono hBr)
            have hBr3 : B ≤ (w2.alloc (.cells #[.int .i64 V.ty, .int .i64 V.n, .string V.s] 70)).heap.size := Nat.le_trans hBr hb3.size
            have hO3 := HO.out.below hb3
            have hbF3 := hbF.trans (hb3.mono hbF.size)
            have hbr3 := hbr'.trans (hb3.mono hbr'.size)
            clear hb2 ha3 q0
            go_upto_region 14 with fail
            generalize w2.alloc (.cells #[.int .i64 V.ty, .int .i64 V.n, .string V.s] 70) = w3 at *
            generalize w2.heap.size = vq at *
            by_cases hE : E = 0
            case neg =>
              have hEb : (E != 0) = true := by simpa using hE
              have hEp := hE
              have HN : Hid (readRE s.data.toList = 2 ∧ readRV s.data.toList = []) := by
                have hpp := T1.out (by rw [HPE.out, if_neg hE])
                unfold Hid; rw [HRE.out, HRV.out, hpp]; exact ⟨rfl, rfl⟩
              clear T1 T2 HPE HRE HRV HO HP hE hbx hO3
              -- the answer: no record, the fault 2; above w: hbF3
              go_wp2_with fail
              go_ret2
              exact ⟨none, 0, by rw [HN.out.1, HN.out.2]; rfl, by rw [HN.out.2]; exact OwnP.nil, hbF3⟩
            have HST : Hid (propsP (P.take (k + 1)) = some (u ++ [(⟨(bs x).extract 0 n, V⟩ : Prp)])) := T2.out _ (by rw [HPE.out, if_pos hE, HNX.out])
            have hEb : (E != 0) = false := by simpa using hE
            have hVok := HVO.out hE
            have HPK : Hid ((⟨(bs x).extract 0 n, V⟩ : Prp).ok) := ⟨by unfold Sm; rw [HNX.out]; exact HNL.out, hVok⟩
            have HO3 := Lib.hid hO3
            have q0 := cell_below hbr3 Q0.out
            have v0 := block_cell hbx 0
            have v1 := block_cell hbx 1
            have v2 := block_cell hbx 2
            have hn0 : (n : Int) ≤ ((bs x).size : Int) := by omega
            clear T1 T2 HPE HVO hE hVok hO3 hbx HO
            have HU := Lib.hid hu
            have hnlb : k ≤ 1048577 := by omega
            have HOA : Hid (Own (w3.alloc (.cells #[.string ((bs x).extract 0 n), .int .i64 V.ty, .int .i64 V.n, .string V.s] 181)).drew B 181 4 (.slice A4 k c4) k (u.flatMap Prp.enc)) := by
              have h := HO3.out
              rw [hu] at h
              exact (h.alloc _).below ((Below.refl _ _).drew)
            have HNW : Hid (∀ j u', (Prp.enc ⟨(bs x).extract 0 n, V⟩)[j]? = some u' → (w3.alloc (.cells #[.string ((bs x).extract 0 n), .int .i64 V.ty, .int .i64 V.n, .string V.s] 181)).drew.cell? ⟨w3.heap.size, j, none⟩ = some u') := fun j u' hj => by
              show (w3.alloc (.cells #[.string ((bs x).extract 0 n), .int .i64 V.ty, .int .i64 V.n, .string V.s] 181)).cell? ⟨w3.heap.size, j, none⟩ = some u'
              rw [World.cell?_alloc_at _ _ _ _ rfl]; simpa [Prp.enc] using hj
            have HAB : Hid (Below B w3 (w3.alloc (.cells #[.string ((bs x).extract 0 n), .int .i64 V.ty, .int .i64 V.n, .string V.s] 181)).drew) := ((Below.refl _ _).alloc hBr3 _).drew
            have HSB : Hid (B ≤ (w3.alloc (.cells #[.string ((bs x).extract 0 n), .int .i64 V.ty, .int .i64 V.n, .string V.s] 181)).drew.heap.size) := Nat.le_trans hBr3 HAB.out.size
            have HBX := Lib.hid hBx
            clear hu hbr hbr' hbr3 hbF hbF3 hBx
            go_upto_region 16 with fail
            go_region_law
              (first
                | (refine step_here rfl ?_
                   refine wp_append_q _ (.tmp 59) (.tmp 68) _ rfl B 181 i0 (.agg #[.string .empty, .int .i64 0, .int .i64 0, .string .empty]) 4 48 Tryz.underlying95 ei ez ez1 ez2 rfl (by decide) (.slice A4 k c4) k (u.flatMap Prp.enc) rfl HOA.out (some ⟨w3.heap.size, 0, none⟩) 1 1 (Prp.enc ⟨(bs x).extract 0 n, V⟩) rfl rfl (fun _ => ⟨_, rfl, fun j u' hj => by rw [addr_add, Nat.zero_add]; exact HNW.out j u' hj⟩) (one_prpE _) (by unfold maxLen; omega) (by omega) HSB.out ?_
                   intro v7 w7 hown7 hg7 hat7))
            all_goals
              have hB7 := HBX.out.trans (HAB.out.grown hg7 HSB.out (fun kk e => (HOA.out.lt kk e).1))
              have ho7 : Own w7 B 181 4 v7 (u ++ [(⟨(bs x).extract 0 n, V⟩ : Prp)]).length ((u ++ [(⟨(bs x).extract 0 n, V⟩ : Prp)]).flatMap Prp.enc) := by
                have h := hown7
                rw [← flat_snoc (enc := Prp.enc), List.length_append, HU.out]; exact h
              have hs7 : B ≤ w7.heap.size := Nat.le_trans HSB.out hg7.size
              have HO7 := Lib.hid ho7
              have HB7 := Lib.hid hB7
              have HP7 : Hid (propsP (P.take (k + 1)) = some (u ++ [(⟨(bs x).extract 0 n, V⟩ : Prp)]) ∧ ∀ p ∈ u ++ [(⟨(bs x).extract 0 n, V⟩ : Prp)], p.ok) := ⟨HST.out, fun p hp => by
                rcases List.mem_append.1 hp with h | h
                · exact HP.out.2 p h
                · rw [List.mem_singleton.1 h]; exact HPK.out⟩
              clear hg7 hat7 hown7 ho7 hB7
              go_wp2_with fail
              go_roundw
              case rel => exact ⟨k + 1, u ++ [(⟨(bs x).extract 0 n, V⟩ : Prp)], by omega, by rw [List.length_append, HU.out]; rfl, by go_num, HB7.out, hs7, HP7, HO7⟩
              case measure => simp [intOf]; omega
          · have c2 : ¬ ((bs x)[n].toNat : Int) = 61 := fun e => h61 (UInt8.toNat_inj.1 (show (bs x)[n].toNat = 61 by omega))
            have c1 : (((bs x)[n].toNat : Int) != 61) = true := bne_iff_ne.2 c2
            have HNN : Hid (noB 61 (x.take (n + 1))) := noB_step HNB.out HYB.out h61
            clear h61
            go_wp2_with fail
            go_round
            case rel => exact ⟨n + 1, by omega, by go_num, HNN⟩
            case measure => simp [intOf]; omega
        · obtain rfl : n = x.length := by omega
          have HN : Hid (readRE s.data.toList = 2 ∧ readRV s.data.toList = []) := by
            have hp : pieceP x = none := by rw [HPI.out, cut_none HNB.out]; exact if_neg (fun h => by cases h.1)
            have hpp := T1.out hp
            unfold Hid; rw [HRE.out, HRV.out, hpp]; exact ⟨rfl, rfl⟩
          have e2 : ((bs x).size : Int) = (x.length : Int) := by rw [hxz]
          have e3 : ((x.length : Int) == ((bs x).size : Int)) = true := by rw [e2]; simp
          have e4 : ¬ (x.length : Int) < ((bs x).size : Int) := by omega
          clear T1 T2 HPI HNB HRE HRV HO HP
          -- the answer: no record, the fault 2; above w: hbF
          go_wp2_with fail
          go_ret2
          exact ⟨none, 0, by rw [HN.out.1, HN.out.2]; rfl, by rw [HN.out.2]; exact OwnP.nil, hbF⟩
    · obtain rfl : k = P.length := by omega
      have hpp : propsP P = some u := by have h := HP.out.1; rw [List.take_length] at h; exact h
      have HE : Hid (readRE s.data.toList = recE u ∧ readRV s.data.toList = if recE u = 0 then u else []) := by
        unfold Hid; rw [HRE.out, HRV.out, hpp]; exact ⟨rfl, rfl⟩
      have HS : Hid (Sl prpL wo (.slice A4 u.length c4) u) := Own.prps HO.out HP.out.2
      have HPO : Hid (∀ p ∈ u, p.ok) := HP.out.2
      have hcall := rrecord_any u (.slice A4 u.length c4) wo HS.out
      have HU := Lib.hid hu
      have hBo := hb1.trans (hbr'.mono hb1.size)
      have HOW := HO
      rw [hu] at hcall
      generalize recE u = ee at *
      clear hpp HRE HRV HP HO hk hlt
      go_wp2_with fail
      refine hcall.mono ?_
      clear hcall
      rintro e w8 ⟨rfl, hb8⟩
      have hB8 := hBo.trans (hb8.mono hBo.size)
      by_cases hz : ee = 0
      · have hzb : (ee != 0) = false := by simpa using hz
        have HF : Hid (readRE s.data.toList = 0 ∧ readRV s.data.toList = u) := by
          unfold Hid; rw [HE.out.1, HE.out.2, if_pos hz]; exact ⟨hz, rfl⟩
        clear hz HE
        go_wp2_with fail
        go_ret2
        refine ⟨A4, c4, ?_, ?_, hB8⟩
        · rw [HF.out.1, HF.out.2, HU.out]; rfl
        · rw [HF.out.2]
          exact ⟨(HOW.out.below hb8).mono (by rw [HBE.out]; exact hb1.size), HPO.out⟩
      · have hzb : (ee != 0) = true := by simpa using hz
        have HF : Hid (readRE s.data.toList = ee ∧ readRV s.data.toList = []) := by
          unfold Hid; rw [HE.out.1, HE.out.2, if_neg hz]; exact ⟨rfl, rfl⟩
        clear hz HE
        go_wp2_with fail
        go_ret2
        exact ⟨none, 0, by rw [HF.out.1, HF.out.2]; rfl, by rw [HF.out.2]; exact OwnP.nil, hB8⟩
end Go.Proofs.YtflidfmpmakggaaGreatDoor
