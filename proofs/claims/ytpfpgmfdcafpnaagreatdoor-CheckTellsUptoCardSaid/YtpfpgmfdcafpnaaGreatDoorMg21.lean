/- Parts: SamS, GtA, GtD, GtE. -/
import Derived.Test.YtpfpgmfdcafpnaaGreatDoorMg09
import Derived.Test.YtpfpgmfdcafpnaaGreatDoorMg05
import Derived.Deep.DeepCutAuto
import Derived.Test.YtpfpgmfdcafpnaaGreatDoorMg13
import Derived.Test.YtpfpgmfdcafpnaaGreatDoorMg17
import Derived.Test.YtpfpgmfdcafpnaaGreatDoorMg10
/- Contract: kinsame.Schema, at two that read the same. No condition. -/
namespace Go.Proofs.YtpfpgmfdcafpnaaGreatDoor
open Go Go.RowKit

theorem bnd_guard (op : BinOp) (a b : Operand) (xs ys : Array Value) (w : World) : (eqGuard op 68 a b (.agg xs) (.agg ys)).run Tryz.prog w = .ok () w := run_eqGuard_agg w op 68 a b xs ys (by kernel_rfl)
theorem bnd_same (d : Nat) (x y : Bnd) (w : World) : (Op.equalIn (d + 2) 68 (.agg #[.string x.name, .string x.src, .string x.dst, .int .i64 x.mn, .int .i64 x.mx]) (.agg #[.string y.name, .string y.src, .string y.dst, .int .i64 y.mn, .int .i64 y.mx])).run Tryz.prog w = .ok (decide (x = y)) w := by
  have hS : Tryz.prog.underlying 68 = some (.struct (Tryz.prog.fieldsOf 68)) := by kernel_rfl
  have hp : Tryz.prog.stoodInHeld 68 = false := by kernel_rfl
  have e1 := Tryz.underlying9
  have e2 := Tryz.underlying3
  rw [run_equalIn_agg w (d + 1) 68 _ _ hS hp]
  simp only [Program.fieldsOf, Tryz.underlying68]
  go_simp
  simp only [bytes_eq]
  cases x; cases y
  simp only [Bnd.mk.injEq]
  rename_i a b c d e a' b' c' d' e'
  by_cases h1 : a = a' <;> by_cases h2 : b = b' <;> by_cases h3 : c = c' <;> by_cases h4 : d = d' <;> by_cases h5 : e = e' <;> simp [h1, h2, h3, h4, h5]
theorem bnd_neq (x y : Bnd) (w : World) : (binOp .neq 68 (.agg #[.string x.name, .string x.src, .string x.dst, .int .i64 x.mn, .int .i64 x.mx]) (.agg #[.string y.name, .string y.src, .string y.dst, .int .i64 y.mn, .int .i64 y.mx])).run Tryz.prog w = .ok (.bool (!decide (x = y))) w := by
  rw [run_neq_struct, show (10000 : Nat) = 9998 + 2 from rfl, bnd_same]; rfl
end Go.Proofs.YtpfpgmfdcafpnaaGreatDoor

/- Contracts: kinsame.Ints, Record, Node, Graph: whether two are the same. No condition. -/
namespace Go.Proofs.YtpfpgmfdcafpnaaGreatDoor
open Go Go.RowKit



theorem prp_guard (op : BinOp) (a b : Operand) (xs ys : Array Value) (w : World) : (eqGuard op 87 a b (.agg xs) (.agg ys)).run Tryz.prog w = .ok () w := run_eqGuard_agg w op 87 a b xs ys (by kernel_rfl)
theorem tie_guard (op : BinOp) (a b : Operand) (xs ys : Array Value) (w : World) : (eqGuard op 72 a b (.agg xs) (.agg ys)).run Tryz.prog w = .ok () w := run_eqGuard_agg w op 72 a b xs ys (by kernel_rfl)
theorem pval_same (d : Nat) (x y : Val) (w : World) : (Op.equalIn (d + 2) 60 (.agg #[.int .i64 x.ty, .int .i64 x.n, .string x.s]) (.agg #[.int .i64 y.ty, .int .i64 y.n, .string y.s])).run Tryz.prog w = .ok (decide (x = y)) w := by
  have hS : Tryz.prog.underlying 60 = some (.struct (Tryz.prog.fieldsOf 60)) := by kernel_rfl
  have hp : Tryz.prog.stoodInHeld 60 = false := by kernel_rfl
  have e1 := Tryz.underlying9
  have e2 := Tryz.underlying3
  rw [run_equalIn_agg w (d + 1) 60 _ _ hS hp]
  simp only [Program.fieldsOf, Tryz.underlying60]
  go_simp
  simp only [bytes_eq]
  cases x; cases y
  simp only [Val.mk.injEq]
  rename_i a b c a' b' c'
  by_cases h1 : a = a' <;> by_cases h2 : b = b' <;> by_cases h3 : c = c' <;> simp [h1, h2, h3]
set_option maxRecDepth 100000 in
theorem prp_same (d : Nat) (x y : Prp) (w : World) : (Op.equalIn (d + 3) 87 (.agg #[.string x.name, .int .i64 x.v.ty, .int .i64 x.v.n, .string x.v.s]) (.agg #[.string y.name, .int .i64 y.v.ty, .int .i64 y.v.n, .string y.v.s])).run Tryz.prog w = .ok (decide (x = y)) w := by
  have hS : Tryz.prog.underlying 87 = some (.struct (Tryz.prog.fieldsOf 87)) := by kernel_rfl
  have hp : Tryz.prog.stoodInHeld 87 = false := by kernel_rfl
  have hv := pval_same d x.v y.v w
  have e1 := Tryz.underlying9
  have e2 := Tryz.underlying3
  have e3 := Tryz.underlying60
  have HV := Lib.hid hv
  clear hv
  rw [run_equalIn_agg w (d + 2) 87 _ _ hS hp]
  simp only [Program.fieldsOf, Tryz.underlying87]
  clear hS hp
  go_simp
  clear HV
  simp only [bytes_eq]
  cases x with | mk f v => cases y with | mk f' v' =>
  cases v; cases v'
  simp only [Prp.mk.injEq, Val.mk.injEq]
  rename_i a b c a' b' c'
  by_cases h0 : f = f' <;> by_cases h1 : a = a' <;> by_cases h2 : b = b' <;> by_cases h3 : c = c' <;> simp [h0, h1, h2, h3]
theorem prp_neq (x y : Prp) (w : World) : (binOp .neq 87 (.agg #[.string x.name, .int .i64 x.v.ty, .int .i64 x.v.n, .string x.v.s]) (.agg #[.string y.name, .int .i64 y.v.ty, .int .i64 y.v.n, .string y.v.s])).run Tryz.prog w = .ok (.bool (!decide (x = y))) w := by
  rw [run_neq_struct, show (10000 : Nat) = 9997 + 3 from rfl, prp_same]; rfl
theorem tie_same (d : Nat) (x y : Tie) (w : World) : (Op.equalIn (d + 2) 72 (.agg #[.string x.bond, .int .i64 x.src, .int .i64 x.dst]) (.agg #[.string y.bond, .int .i64 y.src, .int .i64 y.dst])).run Tryz.prog w = .ok (decide (x = y)) w := by
  have hS : Tryz.prog.underlying 72 = some (.struct (Tryz.prog.fieldsOf 72)) := by kernel_rfl
  have hp : Tryz.prog.stoodInHeld 72 = false := by kernel_rfl
  have e1 := Tryz.underlying9
  have e2 := Tryz.underlying3
  rw [run_equalIn_agg w (d + 1) 72 _ _ hS hp]
  simp only [Program.fieldsOf, Tryz.underlying72]
  go_simp
  simp only [bytes_eq]
  cases x; cases y
  simp only [Tie.mk.injEq]
  rename_i a b c a' b' c'
  by_cases h1 : a = a' <;> by_cases h2 : b = b' <;> by_cases h3 : c = c' <;> simp [h1, h2, h3]
theorem tie_neq (x y : Tie) (w : World) : (binOp .neq 72 (.agg #[.string x.bond, .int .i64 x.src, .int .i64 x.dst]) (.agg #[.string y.bond, .int .i64 y.src, .int .i64 y.dst])).run Tryz.prog w = .ok (.bool (!decide (x = y))) w := by
  rw [run_neq_struct, show (10000 : Nat) = 9998 + 2 from rfl, tie_same]; rfl
/-! ### Two nodes -/

theorem nod_eqB (a b : Nod) : decide (a = b) = (decide (a.props = b.props) && decide (a.id = b.id) && decide (a.kind = b.kind)) := by
  cases a; cases b
  simp only [Nod.mk.injEq]
  rename_i i k p i' k' p'
  by_cases h1 : i = i' <;> by_cases h2 : k = k' <;> by_cases h3 : p = p' <;> simp [h1, h2, h3]
end Go.Proofs.YtpfpgmfdcafpnaaGreatDoor

/- Contracts of the references: kinref1.Find, kinref1.Ends. No condition. -/
namespace Go.Proofs.YtpfpgmfdcafpnaaGreatDoor
open Go Go.RowKit


def rfI (l : List Nod) (id : Int) : Int := idxI (fun n => decide (n.id = id)) l
set_option maxHeartbeats 1000000 in
theorem rgfind_any (g : Grf) (vn vt : Value) (id : Int) (w : World) (hG : GrfR w vn vt g) :
    Calls Tryz.prog 41 #[.agg #[vn, vt], .int .i64 id] w fun e w' => e = .returned (.int .i64 (rfI g.nodes id)) ∧ Below w.heap.size w w' := by
  obtain ⟨A1, c1, rfl, _, hm1⟩ := hG.1.form
  obtain ⟨A2, c2, rfl, _, hm2⟩ := hG.2.form
  unfold maxLen at hm1 hm2
  have hb0 : Below w.heap.size w (w.alloc (.cells #[.slice A1 g.nodes.length c1, .slice A2 g.ties.length c2] 29)) := (Below.refl _ _).alloc (Nat.le_refl _) _
  obtain ⟨x0, x1⟩ := cell_box2 w (.slice A1 g.nodes.length c1) (.slice A2 g.ties.length c2) 29
  have hf := (hG.below hb0).1
  generalize g.nodes = l at *
  clear hG
  go_enter Tryz.func41, Tryz.ntmps41
  go_wp2_with fail
  generalize w.alloc (.cells #[.slice A1 l.length c1, .slice A2 g.ties.length c2] 29) = w0 at *
  go_loop [5] (fun i => ∃ k : Nat, k ≤ l.length ∧ i = .int .i64 k ∧ Hid (∀ j x, j < k → l[j]? = some x → decide (x.id = id) = false)) (fun i => l.length - (intOf i).toNat)
  case atStart => exact ⟨0, Nat.zero_le _, rfl, fun j x hj => absurd hj (Nat.not_lt_zero _)⟩
  case round =>
    obtain ⟨k, hk, rfl, HA⟩ := hrel
    by_cases hlt : k < l.length
    · obtain ⟨d, hd⟩ : ∃ d, l[k]? = some d := ⟨_, List.getElem?_eq_getElem hlt⟩
      obtain ⟨b, o, rfl, u, _, _, _, c0, _, _⟩ := nod_at hf hd
      have hlt' : (k : Int) < (l.length : Int) := by omega
      have HD : Hid (l[k]? = some d) := hd
      clear hd hf
      by_cases hq0 : d.id = id
      · have HE : Hid (rfI l id = k) := by unfold Hid rfI; exact idxI_hit (p := fun n : Nod => decide (n.id = id)) HA.out HD.out (decide_eq_true hq0)
        have hqb : (d.id == id) = true := by rw [beq_iff_eq]; exact hq0
        clear hq0
        go_wp2_with fail
        go_ret
        exact ⟨by rw [HE.out]; rfl, hb0⟩
      · have hqb : (d.id == id) = false := by rw [beq_eq_false_iff_ne]; exact hq0
        have HS : Hid (∀ j y, j < k + 1 → l[j]? = some y → decide (y.id = id) = false) := miss_step (p := fun n : Nod => decide (n.id = id)) HA.out HD.out (decide_eq_false hq0)
        clear hq0
        go_wp2_with fail
        go_round
        case rel => exact ⟨k + 1, by omega, by go_num, HS⟩
        case measure => simp [intOf]; omega
    · have hkl : k = l.length := by omega
      subst hkl
      have HE : Hid (rfI l id = -1) := by unfold Hid rfI; exact idxI_miss (p := fun n : Nod => decide (n.id = id)) HA.out
      clear hf
      go_wp2_with fail
      go_ret
      exact ⟨by rw [HE.out]; rfl, hb0⟩
/-! ### Ends: put where they belong -/
theorem ins_perm (acc : List Int) (n : Int) (p : Nat) : (acc.take p ++ n :: acc.drop p).Perm (n :: acc) := by
  have h : (acc.take p ++ n :: acc.drop p).Perm (n :: (acc.take p ++ acc.drop p)) := List.perm_middle
  rwa [List.take_append_drop] at h
theorem ins_rise {acc : List Int} {n : Int} {p : Nat} (hs : acc.Pairwise (· ≤ ·)) (hp : p ≤ acc.length) (hA : ∀ i d, p ≤ i → acc[i]? = some d → n < d) (hB : p = 0 ∨ ∃ q, acc[p - 1]? = some q ∧ q ≤ n) : (acc.take p ++ n :: acc.drop p).Pairwise (· ≤ ·) := by
  have h0 : (acc.take p ++ acc.drop p).Pairwise (· ≤ ·) := by rw [List.take_append_drop]; exact hs
  rw [List.pairwise_append] at h0 ⊢
  obtain ⟨h1, h2, h3⟩ := h0
  have hd : ∀ d ∈ acc.drop p, n < d := fun d hd => by
    obtain ⟨i, hi⟩ := List.mem_iff_getElem?.1 hd
    rw [List.getElem?_drop] at hi
    exact hA (p + i) d (by omega) hi
  have ht : ∀ d ∈ acc.take p, d ≤ n := fun d hd => by
    rcases hB with h | ⟨q, hq, hqn⟩
    · rw [h] at hd; simp at hd
    · obtain ⟨i, hi⟩ := List.mem_iff_getElem?.1 hd
      rw [List.getElem?_take] at hi
      split at hi
      · rename_i hip
        have hil := (List.getElem?_eq_some_iff.1 hi).1
        have hql := (List.getElem?_eq_some_iff.1 hq).1
        have e1 := (List.getElem?_eq_some_iff.1 hi).2
        have e2 := (List.getElem?_eq_some_iff.1 hq).2
        rcases Nat.lt_or_ge i (p - 1) with h | h
        · have := List.pairwise_iff_getElem.1 hs i (p - 1) hil hql h
          omega
        · have hie : i = p - 1 := by omega
          subst hie
          omega
      · cases hi
  refine ⟨h1, List.pairwise_cons.2 ⟨fun d hd' => by have := hd d hd'; omega, h2⟩, fun a ha b hb => ?_⟩
  rcases List.mem_cons.1 hb with rfl | hb
  · exact ht a ha
  · exact h3 a ha b hb
theorem sortI_rise (l : List Int) : (sortI l).Pairwise (· ≤ ·) := by
  have h := List.pairwise_mergeSort (le := fun a b : Int => decide (a ≤ b)) (fun a b c h1 h2 => by simp at *; omega) (fun a b => by simp; omega) l
  exact h.imp (fun h => by simpa using h)
theorem sortI_of {acc l : List Int} (hs : acc.Pairwise (· ≤ ·)) (hp : acc.Perm l) : acc = sortI l :=
  List.Perm.eq_of_pairwise (fun a b _ _ h1 h2 => by omega) hs (sortI_rise l) (hp.trans (sortI_perm l).symm)
theorem read_takeI {w : World} {B bo oo co t : Nat} {e : TypeId} {acc : List Int} (h : Own w B e 1 (.slice (some ⟨bo, oo, none⟩) acc.length co) acc.length (acc.map (Value.int .i64))) :
    ∀ j u, ((acc.take t).map (Value.int .i64))[j]? = some u → w.cell? ((⟨bo, oo, none⟩ : Addr).add j) = some u := by
  intro j u hj
  rw [addr_add]
  refine h.cell rfl ?_
  rw [List.map_take, List.getElem?_take] at hj
  split at hj
  · exact hj
  · cases hj
theorem read_dropI {w : World} {B bo oo co t : Nat} {e : TypeId} {acc : List Int} (h : Own w B e 1 (.slice (some ⟨bo, oo, none⟩) acc.length co) acc.length (acc.map (Value.int .i64))) :
    ∀ j u, ((acc.drop t).map (Value.int .i64))[j]? = some u → w.cell? ((⟨bo, oo + t, none⟩ : Addr).add j) = some u := by
  intro j u hj
  rw [addr_add, Nat.add_assoc]
  refine h.cell rfl ?_
  rw [List.map_drop, List.getElem?_drop] at hj
  exact hj
theorem one_ints (l : List Int) : ∀ u ∈ l.map (Value.int .i64), u.oneCell' = true := fun u hu => by
  obtain ⟨x, _, rfl⟩ := List.mem_map.1 hu; rfl
end Go.Proofs.YtpfpgmfdcafpnaaGreatDoor

/- Contract of the references: kinref1.Ends: ends of ties of a bond at a node, rising. No condition. -/
namespace Go.Proofs.YtpfpgmfdcafpnaaGreatDoor
open Go Go.RowKit

/-- What has been put so far. -/
def EndsQ (g : Grf) (id : Int) (bond : ByteArray) (back : Bool) (k : Nat) (acc : List Int) : Prop := (∀ x ∈ acc, I64 x) ∧ acc.Pairwise (· ≤ ·) ∧ acc.Perm (endsL (g.ties.take k) id bond back)
theorem EndsQ.keep {g : Grf} {id : Int} {bond : ByteArray} {back : Bool} {k : Nat} {acc : List Int} {t : Tie} (h : EndsQ g id bond back k acc) (ht : g.ties[k]? = some t) (hq : endT back bond id t = false) : EndsQ g id bond back (k + 1) acc := by
  obtain ⟨h1, h2, h3⟩ := h
  refine ⟨h1, h2, ?_⟩
  rw [endsL_take ht, hq]
  simpa using h3
theorem EndsQ.put {g : Grf} {id : Int} {bond : ByteArray} {back : Bool} {k p : Nat} {acc : List Int} {t : Tie} (h : EndsQ g id bond back k acc) (ht : g.ties[k]? = some t) (hok : t.ok) (hq : endT back bond id t = true) (hp : p ≤ acc.length)
    (hA : ∀ i d, p ≤ i → acc[i]? = some d → endX back t < d) (hB : p = 0 ∨ ∃ q, acc[p - 1]? = some q ∧ q ≤ endX back t) : EndsQ g id bond back (k + 1) (acc.take p ++ endX back t :: acc.drop p) := by
  obtain ⟨h1, h2, h3⟩ := h
  refine ⟨fun x hx => ?_, ins_rise h2 hp hA hB, ?_⟩
  · have := (ins_perm acc (endX back t) p).mem_iff.1 hx
    rcases List.mem_cons.1 this with rfl | hm
    · exact endX_i64 hok back
    · exact h1 x hm
  · rw [endsL_take ht, hq]
    refine (ins_perm acc (endX back t) p).trans ?_
    simp only [if_true]
    exact (List.Perm.cons _ h3).trans (List.perm_append_singleton _ _).symm
set_option maxRecDepth 100000 in
set_option maxHeartbeats 8000000 in
theorem rends_any (g : Grf) (id : Int) (bond : ByteArray) (back : Bool) (vn vt : Value) (w : World) (hG : GrfR w vn vt g) (hl : g.ties.length ≤ 900) :
    Calls Tryz.prog 21 #[.agg #[vn, vt], .int .i64 id, .string bond, .bool back] w fun e w' => ∃ u, e = .returned u ∧ Sl intL w' u (endsS g id bond back) ∧ Below w.heap.size w w' := by
  obtain ⟨i0, ei, ez, ez1, ez2⟩ := info_parts eint_info
  obtain ⟨An, cn, rfl, _, _⟩ := hG.1.form
  obtain ⟨At, ct, rfl, _, _⟩ := hG.2.form
  have hb0 : Below w.heap.size w (w.alloc (.cells #[.slice An g.nodes.length cn, .slice At g.ties.length ct] 29)) := (Below.refl _ _).alloc (Nat.le_refl _) _
  obtain ⟨x0, x1⟩ := cell_box2 w (.slice An g.nodes.length cn) (.slice At g.ties.length ct) 29
  have HG := Lib.hid (hG.below hb0)
  clear hG
  cases back with
  | false =>
    go_enter Tryz.func21, Tryz.ntmps21
    go_wp2_with fail
    generalize w.alloc (.cells #[.slice An g.nodes.length cn, .slice At g.ties.length ct] 29) = w1 at *
    have X1 := Lib.hid x1
    clear x0
    go_loopw [9, 10] (fun ov i wr => ∃ (k : Nat) (acc : List Int), k ≤ g.ties.length ∧ i = .int .i64 k ∧ Below w1.heap.size w1 wr ∧ Own wr w1.heap.size 3 1 ov acc.length (acc.map (Value.int .i64)) ∧ acc.length ≤ k ∧ Hid (EndsQ g id bond false k acc)) (fun _ i _ => g.ties.length - (intOf i).toNat)
    case atStart => exact ⟨0, [], Nat.zero_le _, rfl, Below.refl _ _, Own.nil _ _ _ _, Nat.le_refl _, ⟨by simp, List.Pairwise.nil, by simp [endsL]⟩⟩
    case round =>
      clear x1
      -- false: back; t.dst: the number; t.src: the number that is asked
      obtain ⟨k, acc, hk, rfl, hbr, hown, hacc, HQ⟩ := hrel
      obtain ⟨Ao, co, rfl, hoc, hom⟩ := hown.form
      have x1 := cell_below hbr X1.out
      have hBr := hb0.trans (hbr.mono hb0.size)
      by_cases hlt : k < g.ties.length
      · obtain ⟨t, ht⟩ : ∃ d, g.ties[k]? = some d := ⟨_, List.getElem?_eq_getElem hlt⟩
        obtain ⟨gb, o, rfl, hok, q0, q1, q2⟩ := tie_at (HG.out.below hbr).2 ht
        have hlt' : (k : Int) < (g.ties.length : Int) := by omega
        have hk120 : (k : Int) ≤ 1000 := by omega
        have hacc' : (acc.length : Int) ≤ 1000 := by omega
        have ha1 : Below wr.heap.size wr (wr.alloc (.cells #[.string t.bond, .int .i64 t.src, .int .i64 t.dst] 72)) := (Below.refl _ _).alloc (Nat.le_refl _) _
        obtain ⟨z0, z1, z2⟩ := cell_box3 wr (.string t.bond) (.int .i64 t.src) (.int .i64 t.dst) 72
        have hbx := hbr.trans (ha1.mono hbr.size)
        have hown := hown.below ha1
        have HET : Hid (endT false bond id t = (decide (t.bond = bond) && (t.src == id))) := rfl
        have HKEEP : Hid (endT false bond id t = false → EndsQ g id bond false (k + 1) acc) := HQ.out.keep ht
        have HPUT0 : Hid (endT false bond id t = true → ∀ p, p ≤ acc.length → (∀ i d, p ≤ i → acc[i]? = some d → t.dst < d) → (p = 0 ∨ ∃ q, acc[p - 1]? = some q ∧ q ≤ t.dst) → EndsQ g id bond false (k + 1) (acc.take p ++ (t.dst) :: acc.drop p)) := fun h p hp hA hB => HQ.out.put ht hok h hp hA hB
        have hbb : (t.bond.toList == bond.toList) = decide (t.bond = bond) := bytes_beq t.bond bond
        clear ht hok
        go_upto_region 6 with fail
        generalize wr.alloc (.cells #[.string t.bond, .int .i64 t.src, .int .i64 t.dst] 72) = w3 at *
        clear q0 q1 q2 x1
        by_cases hq : t.bond = bond
        · rw [decide_eq_true hq] at hbb
          have hbc : t.bond.toList = bond.toList := by rw [hq]
          by_cases hi : t.src = id
          · have HPUT := Lib.hid (HPUT0.out (by rw [HET.out, decide_eq_true hq, hi]; simp))
            have hib : (t.src == id) = true := by rw [beq_iff_eq]; exact hi
            clear HKEEP HPUT0 HET hq hi
            -- false: back; t.dst: the number
            go_wp2_with fail
            go_loopw [13] (fun tv wx => ∃ (z : Int) (p : Nat), p ≤ acc.length ∧ z = p ∧ tv = .int .i64 z ∧ Below w1.heap.size w1 wx ∧ Below w3.heap.size w3 wx ∧ Hid (∀ i d, p ≤ i → acc[i]? = some d → t.dst < d)) (fun tv _ => (intOf tv).toNat)
            case atStart => exact ⟨acc.length, acc.length, Nat.le_refl _, rfl, rfl, hbx, Below.refl _ _, fun i d hi hd => by rw [List.getElem?_eq_none hi] at hd; cases hd⟩
            case round =>
              obtain ⟨z, p, hp, hzp, rfl, hby, hb3, HA⟩ := hrel
              have hownr := hown.below hb3
              cases p with
              | zero =>
                obtain rfl : z = 0 := by omega
                clear hzp
                have hz0 : ¬ ((0 : Int) < 0) := by omega
                have HP : Hid (EndsQ g id bond false (k + 1) (acc.take 0 ++ (t.dst) :: acc.drop 0)) := HPUT.out 0 hp HA.out (.inl rfl)
                rcases hown.2 with ⟨hv0, h0⟩ | ⟨bo, oo, cap, cur, hv0, _⟩
                · injection hv0 with hA _ hc'
                  subst hA; subst hc'
                  -- 0: place; (fun h => absurd h (by omega)): the head is read; (fun h => (Nat.lt_irrefl _ h).elim): the tail is read; t.dst: the number
                  have hws := hby.size
                  go_wp2_with (first
                    | (at_builtin; refine wpList_append_q _ rfl (.tmp 70) (.tmp 73) _ rfl w1.heap.size 3 i0 (.int .i64 0) 1 8 Tryz.underlying46 ei ez ez1 ez2 rfl (by decide) (.slice none 0 0) 0 [] rfl (Own.nil _ _ _ _) _ (0) _ ((acc.take (0)).map (Value.int .i64)) rfl (by rw [List.length_map, List.length_take]; omega) (fun h => absurd h (by omega)) (one_ints _) (by unfold maxLen; omega) (by omega) (by omega) ?_
                       intro v7 w7 hown7 hg7 hat7
                       have hs7 := hg7.size
                       have hb7 : Below wr.heap.size wr w7 := (Below.refl _ _).grown hg7 (by omega) (fun k e => by cases e)
                       have hB7 : ∀ k, v7.ownBlock = some k → k = wr.heap.size := fun k e => by
                         rcases hat7 with h | h
                         · rw [h] at e; cases e
                         · rw [h] at e; injection e with e; omega
                       have hsw7 := hb7.size)
                    | (at_builtin; refine wpList_append_q _ rfl (.tmp 75) (.tmp 77) _ rfl w1.heap.size 3 i0 (.int .i64 0) 1 8 Tryz.underlying46 ei ez ez1 ez2 rfl (by decide) v7 (0 + (0)) ([] ++ (acc.take (0)).map (Value.int .i64)) rfl (hown7.alloc _) _ 1 1 [.int .i64 (t.dst)] rfl rfl (fun _ => ⟨_, rfl, fun j u hj => by rw [addr_add, Nat.zero_add, World.cell?_alloc_at _ _ _ _ rfl]; simpa using hj⟩) (fun u hu => by simp at hu; subst hu; rfl) (by unfold maxLen; omega) (by omega) (by simp; omega) ?_
                       intro v8 w8 hown8 hg8 hat8
                       have hs8 := hg8.size
                       have hb8 : Below wr.heap.size wr w8 := (hb7.alloc hb7.size _).grown hg8 (by simp at hs8 ⊢; omega) (fun k e => by rw [hB7 k e]; exact Nat.le_refl _)
                       have hsw8 := hb8.size
                       have hown8a := hownr.below hb8)
                    | (at_builtin; refine wpList_append_q _ rfl (.tmp 79) (.tmp 82) _ rfl w1.heap.size 3 i0 (.int .i64 0) 1 8 Tryz.underlying46 ei ez ez1 ez2 rfl (by decide) v8 (0 + (0) + 1) ([] ++ (acc.take (0)).map (Value.int .i64) ++ [.int .i64 (t.dst)]) rfl hown8 _ _ _ ((acc.drop (0)).map (Value.int .i64)) rfl (by rw [List.length_map, List.length_drop]; omega) (fun h => (Nat.lt_irrefl _ h).elim) (one_ints _) (by unfold maxLen; omega) (by omega) (by omega) ?_
                       intro v9 w9 hown9 hg9 hat9))
                  have hb9 : Below wr.heap.size wr w9 := hb8.grown hg9 (by have := hg9.size; omega) (fun k e => by
                    rcases hat8 with h | h
                    · rw [h] at e; rw [hB7 k e]; exact Nat.le_refl _
                    · rw [h] at e; injection e with e; simp at e; omega)
                  have hby9 := hby.trans (hb9.mono hby.size)
                  have hl9 : (acc.take (0) ++ (t.dst) :: acc.drop (0)).length = acc.length + 1 := by simp <;> omega
                  have ho9 : Own w9 w1.heap.size 3 1 v9 (acc.take (0) ++ (t.dst) :: acc.drop (0)).length ((acc.take (0) ++ (t.dst) :: acc.drop (0)).map (Value.int .i64)) := hown9.cast (by rw [hl9]; omega) (by simp)
                  have hl2 : (acc.take (0) ++ (t.dst) :: acc.drop (0)).length ≤ k + 1 := by omega
                  go_roundw
                  case rel => exact ⟨k + 1, _, by omega, by go_num, hby9, ho9, hl2, HP.out⟩
                  case measure => simp [intOf]; omega
                · injection hv0 with hA _ hc'
                  subst hA
                  clear hc'
                  -- 0: place; (fun h => absurd h (by omega)): the head is read; (fun h => ⟨⟨bo, oo + 0, none⟩, by have hne : ¬ co = 0 := (by omega); simp [hne, addr_add], read_dropI hown8a⟩): the tail is read; t.dst: the number
                  have hws := hby.size
                  go_wp2_with (first
                    | (at_builtin; refine wpList_append_q _ rfl (.tmp 70) (.tmp 73) _ rfl w1.heap.size 3 i0 (.int .i64 0) 1 8 Tryz.underlying46 ei ez ez1 ez2 rfl (by decide) (.slice none 0 0) 0 [] rfl (Own.nil _ _ _ _) _ (0) _ ((acc.take (0)).map (Value.int .i64)) rfl (by rw [List.length_map, List.length_take]; omega) (fun h => absurd h (by omega)) (one_ints _) (by unfold maxLen; omega) (by omega) (by omega) ?_
                       intro v7 w7 hown7 hg7 hat7
                       have hs7 := hg7.size
                       have hb7 : Below wr.heap.size wr w7 := (Below.refl _ _).grown hg7 (by omega) (fun k e => by cases e)
                       have hB7 : ∀ k, v7.ownBlock = some k → k = wr.heap.size := fun k e => by
                         rcases hat7 with h | h
                         · rw [h] at e; cases e
                         · rw [h] at e; injection e with e; omega
                       have hsw7 := hb7.size)
                    | (at_builtin; refine wpList_append_q _ rfl (.tmp 75) (.tmp 77) _ rfl w1.heap.size 3 i0 (.int .i64 0) 1 8 Tryz.underlying46 ei ez ez1 ez2 rfl (by decide) v7 (0 + (0)) ([] ++ (acc.take (0)).map (Value.int .i64)) rfl (hown7.alloc _) _ 1 1 [.int .i64 (t.dst)] rfl rfl (fun _ => ⟨_, rfl, fun j u hj => by rw [addr_add, Nat.zero_add, World.cell?_alloc_at _ _ _ _ rfl]; simpa using hj⟩) (fun u hu => by simp at hu; subst hu; rfl) (by unfold maxLen; omega) (by omega) (by simp; omega) ?_
                       intro v8 w8 hown8 hg8 hat8
                       have hs8 := hg8.size
                       have hb8 : Below wr.heap.size wr w8 := (hb7.alloc hb7.size _).grown hg8 (by simp at hs8 ⊢; omega) (fun k e => by rw [hB7 k e]; exact Nat.le_refl _)
                       have hsw8 := hb8.size
                       have hown8a := hownr.below hb8)
                    | (at_builtin; refine wpList_append_q _ rfl (.tmp 79) (.tmp 82) _ rfl w1.heap.size 3 i0 (.int .i64 0) 1 8 Tryz.underlying46 ei ez ez1 ez2 rfl (by decide) v8 (0 + (0) + 1) ([] ++ (acc.take (0)).map (Value.int .i64) ++ [.int .i64 (t.dst)]) rfl hown8 _ _ _ ((acc.drop (0)).map (Value.int .i64)) rfl (by rw [List.length_map, List.length_drop]; omega) (fun h => ⟨⟨bo, oo + 0, none⟩, by have hne : ¬ co = 0 := (by omega); simp [hne, addr_add], read_dropI hown8a⟩) (one_ints _) (by unfold maxLen; omega) (by omega) (by omega) ?_
                       intro v9 w9 hown9 hg9 hat9))
                  have hb9 : Below wr.heap.size wr w9 := hb8.grown hg9 (by have := hg9.size; omega) (fun k e => by
                    rcases hat8 with h | h
                    · rw [h] at e; rw [hB7 k e]; exact Nat.le_refl _
                    · rw [h] at e; injection e with e; simp at e; omega)
                  have hby9 := hby.trans (hb9.mono hby.size)
                  have hl9 : (acc.take (0) ++ (t.dst) :: acc.drop (0)).length = acc.length + 1 := by simp <;> omega
                  have ho9 : Own w9 w1.heap.size 3 1 v9 (acc.take (0) ++ (t.dst) :: acc.drop (0)).length ((acc.take (0) ++ (t.dst) :: acc.drop (0)).map (Value.int .i64)) := hown9.cast (by rw [hl9]; omega) (by simp)
                  have hl2 : (acc.take (0) ++ (t.dst) :: acc.drop (0)).length ≤ k + 1 := by omega
                  go_roundw
                  case rel => exact ⟨k + 1, _, by omega, by go_num, hby9, ho9, hl2, HP.out⟩
                  case measure => simp [intOf]; omega
              | succ p =>
                obtain rfl : z = (p : Int) + 1 := by omega
                clear hzp
                obtain ⟨q, hq⟩ : ∃ d, acc[p]? = some d := ⟨_, List.getElem?_eq_getElem (by omega)⟩
                obtain ⟨bo, oo, hAo, _, r0⟩ := int_at (hownr.ints HQ.out.1) hq
                subst hAo
                have hpl : (p : Int) < (acc.length : Int) := by omega
                have hp0 : (0 : Int) < (p : Int) + 1 := by omega
                have hpw : IntKind.i64.wrap ((p : Int) + 1 - 1) = (p : Int) := by rw [IntWalk.i64_in _ (by omega)]; omega
                by_cases hc : t.dst < q
                · have HN : Hid (∀ i d, p ≤ i → acc[i]? = some d → t.dst < d) := fun i d hi hd => by
                    by_cases hip : i = p
                    · subst hip; rw [hq] at hd; injection hd with hd; subst hd; exact hc
                    · exact HA.out i d (by omega) hd
                  clear hq
                  go_wp2_with fail
                  go_roundw
                  case rel => exact ⟨p, p, by omega, rfl, by go_num, hby, hb3, HN⟩
                  case measure => simp [intOf]
                · have hc' : q ≤ t.dst := by omega
                  have HP : Hid (EndsQ g id bond false (k + 1) (acc.take (p + 1) ++ (t.dst) :: acc.drop (p + 1))) := HPUT.out (p + 1) hp HA.out (.inr ⟨q, by simpa using hq, hc'⟩)
                  have hpo : (p : Int) + 1 ≤ (co : Int) := by omega
                  have hpl' : (p : Int) + 1 ≤ (acc.length : Int) := by omega
                  clear hc hq
                  -- p + 1: place; (fun _ => ⟨_, rfl, read_takeI hownr⟩): the head is read; (fun h => ⟨⟨bo, oo + (p + 1), none⟩, by have hne : ¬ co = p + 1 := (by omega); simp [hne, addr_add], read_dropI hown8a⟩): the tail is read; t.dst: the number
                  have hws := hby.size
                  go_wp2_with (first
                    | (at_builtin; refine wpList_append_q _ rfl (.tmp 70) (.tmp 73) _ rfl w1.heap.size 3 i0 (.int .i64 0) 1 8 Tryz.underlying46 ei ez ez1 ez2 rfl (by decide) (.slice none 0 0) 0 [] rfl (Own.nil _ _ _ _) _ (p + 1) _ ((acc.take (p + 1)).map (Value.int .i64)) rfl (by rw [List.length_map, List.length_take]; omega) (fun _ => ⟨_, rfl, read_takeI hownr⟩) (one_ints _) (by unfold maxLen; omega) (by omega) (by omega) ?_
                       intro v7 w7 hown7 hg7 hat7
                       have hs7 := hg7.size
                       have hb7 : Below wr.heap.size wr w7 := (Below.refl _ _).grown hg7 (by omega) (fun k e => by cases e)
                       have hB7 : ∀ k, v7.ownBlock = some k → k = wr.heap.size := fun k e => by
                         rcases hat7 with h | h
                         · rw [h] at e; cases e
                         · rw [h] at e; injection e with e; omega
                       have hsw7 := hb7.size)
                    | (at_builtin; refine wpList_append_q _ rfl (.tmp 75) (.tmp 77) _ rfl w1.heap.size 3 i0 (.int .i64 0) 1 8 Tryz.underlying46 ei ez ez1 ez2 rfl (by decide) v7 (0 + (p + 1)) ([] ++ (acc.take (p + 1)).map (Value.int .i64)) rfl (hown7.alloc _) _ 1 1 [.int .i64 (t.dst)] rfl rfl (fun _ => ⟨_, rfl, fun j u hj => by rw [addr_add, Nat.zero_add, World.cell?_alloc_at _ _ _ _ rfl]; simpa using hj⟩) (fun u hu => by simp at hu; subst hu; rfl) (by unfold maxLen; omega) (by omega) (by simp; omega) ?_
                       intro v8 w8 hown8 hg8 hat8
                       have hs8 := hg8.size
                       have hb8 : Below wr.heap.size wr w8 := (hb7.alloc hb7.size _).grown hg8 (by simp at hs8 ⊢; omega) (fun k e => by rw [hB7 k e]; exact Nat.le_refl _)
                       have hsw8 := hb8.size
                       have hown8a := hownr.below hb8)
                    | (at_builtin; refine wpList_append_q _ rfl (.tmp 79) (.tmp 82) _ rfl w1.heap.size 3 i0 (.int .i64 0) 1 8 Tryz.underlying46 ei ez ez1 ez2 rfl (by decide) v8 (0 + (p + 1) + 1) ([] ++ (acc.take (p + 1)).map (Value.int .i64) ++ [.int .i64 (t.dst)]) rfl hown8 _ _ _ ((acc.drop (p + 1)).map (Value.int .i64)) rfl (by rw [List.length_map, List.length_drop]; omega) (fun h => ⟨⟨bo, oo + (p + 1), none⟩, by have hne : ¬ co = p + 1 := (by omega); simp [hne, addr_add], read_dropI hown8a⟩) (one_ints _) (by unfold maxLen; omega) (by omega) (by omega) ?_
                       intro v9 w9 hown9 hg9 hat9))
                  have hb9 : Below wr.heap.size wr w9 := hb8.grown hg9 (by have := hg9.size; omega) (fun k e => by
                    rcases hat8 with h | h
                    · rw [h] at e; rw [hB7 k e]; exact Nat.le_refl _
                    · rw [h] at e; injection e with e; simp at e; omega)
                  have hby9 := hby.trans (hb9.mono hby.size)
                  have hl9 : (acc.take (p + 1) ++ (t.dst) :: acc.drop (p + 1)).length = acc.length + 1 := by simp <;> omega
                  have ho9 : Own w9 w1.heap.size 3 1 v9 (acc.take (p + 1) ++ (t.dst) :: acc.drop (p + 1)).length ((acc.take (p + 1) ++ (t.dst) :: acc.drop (p + 1)).map (Value.int .i64)) := hown9.cast (by rw [hl9]; omega) (by simp)
                  have hl2 : (acc.take (p + 1) ++ (t.dst) :: acc.drop (p + 1)).length ≤ k + 1 := by omega
                  go_roundw
                  case rel => exact ⟨k + 1, _, by omega, by go_num, hby9, ho9, hl2, HP.out⟩
                  case measure => simp [intOf]; omega
          · have HN := Lib.hid (HKEEP.out (by rw [HET.out, decide_eq_true hq]; simpa using hi))
            have hib : (t.src == id) = false := by rw [beq_eq_false_iff_ne]; exact hi
            clear HKEEP HPUT0 HET hq hi
            go_wp2_with fail
            go_roundw
            case rel => exact ⟨k + 1, acc, by omega, by go_num, hbx, hown, by omega, HN⟩
            case measure => simp [intOf]; omega
        · have HN := Lib.hid (HKEEP.out (by rw [HET.out, decide_eq_false hq]; rfl))
          rw [decide_eq_false hq] at hbb
          have hbc : ¬ t.bond.toList = bond.toList := by rw [bytes_eq]; exact hq
          clear HKEEP HPUT0 HET hq
          go_wp2_with fail
          go_roundw
          case rel => exact ⟨k + 1, acc, by omega, by go_num, hbx, hown, by omega, HN⟩
          case measure => simp [intOf]; omega
      · obtain rfl : k = g.ties.length := by omega
        have HE : Hid (endsS g id bond false = acc) := by
          obtain ⟨_, h2, h3⟩ := HQ.out
          rw [List.take_length] at h3
          exact (sortI_of h2 h3).symm
        have hsl := hown.ints HQ.out.1
        go_wp2_with fail
        go_ret
        exact ⟨_, rfl, by rw [HE.out]; exact hsl, hBr⟩
  | true =>
    go_enter Tryz.func21, Tryz.ntmps21
    go_wp2_with fail
    generalize w.alloc (.cells #[.slice An g.nodes.length cn, .slice At g.ties.length ct] 29) = w1 at *
    have X1 := Lib.hid x1
    clear x0
    go_loopw [9, 10] (fun ov i wr => ∃ (k : Nat) (acc : List Int), k ≤ g.ties.length ∧ i = .int .i64 k ∧ Below w1.heap.size w1 wr ∧ Own wr w1.heap.size 3 1 ov acc.length (acc.map (Value.int .i64)) ∧ acc.length ≤ k ∧ Hid (EndsQ g id bond true k acc)) (fun _ i _ => g.ties.length - (intOf i).toNat)
    case atStart => exact ⟨0, [], Nat.zero_le _, rfl, Below.refl _ _, Own.nil _ _ _ _, Nat.le_refl _, ⟨by simp, List.Pairwise.nil, by simp [endsL]⟩⟩
    case round =>
      clear x1
      -- true: back; t.src: the number; t.dst: the number that is asked
      obtain ⟨k, acc, hk, rfl, hbr, hown, hacc, HQ⟩ := hrel
      obtain ⟨Ao, co, rfl, hoc, hom⟩ := hown.form
      have x1 := cell_below hbr X1.out
      have hBr := hb0.trans (hbr.mono hb0.size)
      by_cases hlt : k < g.ties.length
      · obtain ⟨t, ht⟩ : ∃ d, g.ties[k]? = some d := ⟨_, List.getElem?_eq_getElem hlt⟩
        obtain ⟨gb, o, rfl, hok, q0, q1, q2⟩ := tie_at (HG.out.below hbr).2 ht
        have hlt' : (k : Int) < (g.ties.length : Int) := by omega
        have hk120 : (k : Int) ≤ 1000 := by omega
        have hacc' : (acc.length : Int) ≤ 1000 := by omega
        have ha1 : Below wr.heap.size wr (wr.alloc (.cells #[.string t.bond, .int .i64 t.src, .int .i64 t.dst] 72)) := (Below.refl _ _).alloc (Nat.le_refl _) _
        obtain ⟨z0, z1, z2⟩ := cell_box3 wr (.string t.bond) (.int .i64 t.src) (.int .i64 t.dst) 72
        have hbx := hbr.trans (ha1.mono hbr.size)
        have hown := hown.below ha1
        have HET : Hid (endT true bond id t = (decide (t.bond = bond) && (t.dst == id))) := rfl
        have HKEEP : Hid (endT true bond id t = false → EndsQ g id bond true (k + 1) acc) := HQ.out.keep ht
        have HPUT0 : Hid (endT true bond id t = true → ∀ p, p ≤ acc.length → (∀ i d, p ≤ i → acc[i]? = some d → t.src < d) → (p = 0 ∨ ∃ q, acc[p - 1]? = some q ∧ q ≤ t.src) → EndsQ g id bond true (k + 1) (acc.take p ++ (t.src) :: acc.drop p)) := fun h p hp hA hB => HQ.out.put ht hok h hp hA hB
        have hbb : (t.bond.toList == bond.toList) = decide (t.bond = bond) := bytes_beq t.bond bond
        clear ht hok
        go_upto_region 6 with fail
        generalize wr.alloc (.cells #[.string t.bond, .int .i64 t.src, .int .i64 t.dst] 72) = w3 at *
        clear q0 q1 q2 x1
        by_cases hq : t.bond = bond
        · rw [decide_eq_true hq] at hbb
          have hbc : t.bond.toList = bond.toList := by rw [hq]
          by_cases hi : t.dst = id
          · have HPUT := Lib.hid (HPUT0.out (by rw [HET.out, decide_eq_true hq, hi]; simp))
            have hib : (t.dst == id) = true := by rw [beq_iff_eq]; exact hi
            clear HKEEP HPUT0 HET hq hi
            -- true: back; t.src: the number
            go_wp2_with fail
            go_loopw [13] (fun tv wx => ∃ (z : Int) (p : Nat), p ≤ acc.length ∧ z = p ∧ tv = .int .i64 z ∧ Below w1.heap.size w1 wx ∧ Below w3.heap.size w3 wx ∧ Hid (∀ i d, p ≤ i → acc[i]? = some d → t.src < d)) (fun tv _ => (intOf tv).toNat)
            case atStart => exact ⟨acc.length, acc.length, Nat.le_refl _, rfl, rfl, hbx, Below.refl _ _, fun i d hi hd => by rw [List.getElem?_eq_none hi] at hd; cases hd⟩
            case round =>
              obtain ⟨z, p, hp, hzp, rfl, hby, hb3, HA⟩ := hrel
              have hownr := hown.below hb3
              cases p with
              | zero =>
                obtain rfl : z = 0 := by omega
                clear hzp
                have hz0 : ¬ ((0 : Int) < 0) := by omega
                have HP : Hid (EndsQ g id bond true (k + 1) (acc.take 0 ++ (t.src) :: acc.drop 0)) := HPUT.out 0 hp HA.out (.inl rfl)
                rcases hown.2 with ⟨hv0, h0⟩ | ⟨bo, oo, cap, cur, hv0, _⟩
                · injection hv0 with hA _ hc'
                  subst hA; subst hc'
                  -- 0: place; (fun h => absurd h (by omega)): the head is read; (fun h => (Nat.lt_irrefl _ h).elim): the tail is read; t.src: the number
                  have hws := hby.size
                  go_wp2_with (first
                    | (at_builtin; refine wpList_append_q _ rfl (.tmp 70) (.tmp 73) _ rfl w1.heap.size 3 i0 (.int .i64 0) 1 8 Tryz.underlying46 ei ez ez1 ez2 rfl (by decide) (.slice none 0 0) 0 [] rfl (Own.nil _ _ _ _) _ (0) _ ((acc.take (0)).map (Value.int .i64)) rfl (by rw [List.length_map, List.length_take]; omega) (fun h => absurd h (by omega)) (one_ints _) (by unfold maxLen; omega) (by omega) (by omega) ?_
                       intro v7 w7 hown7 hg7 hat7
                       have hs7 := hg7.size
                       have hb7 : Below wr.heap.size wr w7 := (Below.refl _ _).grown hg7 (by omega) (fun k e => by cases e)
                       have hB7 : ∀ k, v7.ownBlock = some k → k = wr.heap.size := fun k e => by
                         rcases hat7 with h | h
                         · rw [h] at e; cases e
                         · rw [h] at e; injection e with e; omega
                       have hsw7 := hb7.size)
                    | (at_builtin; refine wpList_append_q _ rfl (.tmp 75) (.tmp 77) _ rfl w1.heap.size 3 i0 (.int .i64 0) 1 8 Tryz.underlying46 ei ez ez1 ez2 rfl (by decide) v7 (0 + (0)) ([] ++ (acc.take (0)).map (Value.int .i64)) rfl (hown7.alloc _) _ 1 1 [.int .i64 (t.src)] rfl rfl (fun _ => ⟨_, rfl, fun j u hj => by rw [addr_add, Nat.zero_add, World.cell?_alloc_at _ _ _ _ rfl]; simpa using hj⟩) (fun u hu => by simp at hu; subst hu; rfl) (by unfold maxLen; omega) (by omega) (by simp; omega) ?_
                       intro v8 w8 hown8 hg8 hat8
                       have hs8 := hg8.size
                       have hb8 : Below wr.heap.size wr w8 := (hb7.alloc hb7.size _).grown hg8 (by simp at hs8 ⊢; omega) (fun k e => by rw [hB7 k e]; exact Nat.le_refl _)
                       have hsw8 := hb8.size
                       have hown8a := hownr.below hb8)
                    | (at_builtin; refine wpList_append_q _ rfl (.tmp 79) (.tmp 82) _ rfl w1.heap.size 3 i0 (.int .i64 0) 1 8 Tryz.underlying46 ei ez ez1 ez2 rfl (by decide) v8 (0 + (0) + 1) ([] ++ (acc.take (0)).map (Value.int .i64) ++ [.int .i64 (t.src)]) rfl hown8 _ _ _ ((acc.drop (0)).map (Value.int .i64)) rfl (by rw [List.length_map, List.length_drop]; omega) (fun h => (Nat.lt_irrefl _ h).elim) (one_ints _) (by unfold maxLen; omega) (by omega) (by omega) ?_
                       intro v9 w9 hown9 hg9 hat9))
                  have hb9 : Below wr.heap.size wr w9 := hb8.grown hg9 (by have := hg9.size; omega) (fun k e => by
                    rcases hat8 with h | h
                    · rw [h] at e; rw [hB7 k e]; exact Nat.le_refl _
                    · rw [h] at e; injection e with e; simp at e; omega)
                  have hby9 := hby.trans (hb9.mono hby.size)
                  have hl9 : (acc.take (0) ++ (t.src) :: acc.drop (0)).length = acc.length + 1 := by simp <;> omega
                  have ho9 : Own w9 w1.heap.size 3 1 v9 (acc.take (0) ++ (t.src) :: acc.drop (0)).length ((acc.take (0) ++ (t.src) :: acc.drop (0)).map (Value.int .i64)) := hown9.cast (by rw [hl9]; omega) (by simp)
                  have hl2 : (acc.take (0) ++ (t.src) :: acc.drop (0)).length ≤ k + 1 := by omega
                  go_roundw
                  case rel => exact ⟨k + 1, _, by omega, by go_num, hby9, ho9, hl2, HP.out⟩
                  case measure => simp [intOf]; omega
                · injection hv0 with hA _ hc'
                  subst hA
                  clear hc'
                  -- 0: place; (fun h => absurd h (by omega)): the head is read; (fun h => ⟨⟨bo, oo + 0, none⟩, by have hne : ¬ co = 0 := (by omega); simp [hne, addr_add], read_dropI hown8a⟩): the tail is read; t.src: the number
                  have hws := hby.size
                  go_wp2_with (first
                    | (at_builtin; refine wpList_append_q _ rfl (.tmp 70) (.tmp 73) _ rfl w1.heap.size 3 i0 (.int .i64 0) 1 8 Tryz.underlying46 ei ez ez1 ez2 rfl (by decide) (.slice none 0 0) 0 [] rfl (Own.nil _ _ _ _) _ (0) _ ((acc.take (0)).map (Value.int .i64)) rfl (by rw [List.length_map, List.length_take]; omega) (fun h => absurd h (by omega)) (one_ints _) (by unfold maxLen; omega) (by omega) (by omega) ?_
                       intro v7 w7 hown7 hg7 hat7
                       have hs7 := hg7.size
                       have hb7 : Below wr.heap.size wr w7 := (Below.refl _ _).grown hg7 (by omega) (fun k e => by cases e)
                       have hB7 : ∀ k, v7.ownBlock = some k → k = wr.heap.size := fun k e => by
                         rcases hat7 with h | h
                         · rw [h] at e; cases e
                         · rw [h] at e; injection e with e; omega
                       have hsw7 := hb7.size)
                    | (at_builtin; refine wpList_append_q _ rfl (.tmp 75) (.tmp 77) _ rfl w1.heap.size 3 i0 (.int .i64 0) 1 8 Tryz.underlying46 ei ez ez1 ez2 rfl (by decide) v7 (0 + (0)) ([] ++ (acc.take (0)).map (Value.int .i64)) rfl (hown7.alloc _) _ 1 1 [.int .i64 (t.src)] rfl rfl (fun _ => ⟨_, rfl, fun j u hj => by rw [addr_add, Nat.zero_add, World.cell?_alloc_at _ _ _ _ rfl]; simpa using hj⟩) (fun u hu => by simp at hu; subst hu; rfl) (by unfold maxLen; omega) (by omega) (by simp; omega) ?_
                       intro v8 w8 hown8 hg8 hat8
                       have hs8 := hg8.size
                       have hb8 : Below wr.heap.size wr w8 := (hb7.alloc hb7.size _).grown hg8 (by simp at hs8 ⊢; omega) (fun k e => by rw [hB7 k e]; exact Nat.le_refl _)
                       have hsw8 := hb8.size
                       have hown8a := hownr.below hb8)
                    | (at_builtin; refine wpList_append_q _ rfl (.tmp 79) (.tmp 82) _ rfl w1.heap.size 3 i0 (.int .i64 0) 1 8 Tryz.underlying46 ei ez ez1 ez2 rfl (by decide) v8 (0 + (0) + 1) ([] ++ (acc.take (0)).map (Value.int .i64) ++ [.int .i64 (t.src)]) rfl hown8 _ _ _ ((acc.drop (0)).map (Value.int .i64)) rfl (by rw [List.length_map, List.length_drop]; omega) (fun h => ⟨⟨bo, oo + 0, none⟩, by have hne : ¬ co = 0 := (by omega); simp [hne, addr_add], read_dropI hown8a⟩) (one_ints _) (by unfold maxLen; omega) (by omega) (by omega) ?_
                       intro v9 w9 hown9 hg9 hat9))
                  have hb9 : Below wr.heap.size wr w9 := hb8.grown hg9 (by have := hg9.size; omega) (fun k e => by
                    rcases hat8 with h | h
                    · rw [h] at e; rw [hB7 k e]; exact Nat.le_refl _
                    · rw [h] at e; injection e with e; simp at e; omega)
                  have hby9 := hby.trans (hb9.mono hby.size)
                  have hl9 : (acc.take (0) ++ (t.src) :: acc.drop (0)).length = acc.length + 1 := by simp <;> omega
                  have ho9 : Own w9 w1.heap.size 3 1 v9 (acc.take (0) ++ (t.src) :: acc.drop (0)).length ((acc.take (0) ++ (t.src) :: acc.drop (0)).map (Value.int .i64)) := hown9.cast (by rw [hl9]; omega) (by simp)
                  have hl2 : (acc.take (0) ++ (t.src) :: acc.drop (0)).length ≤ k + 1 := by omega
                  go_roundw
                  case rel => exact ⟨k + 1, _, by omega, by go_num, hby9, ho9, hl2, HP.out⟩
                  case measure => simp [intOf]; omega
              | succ p =>
                obtain rfl : z = (p : Int) + 1 := by omega
                clear hzp
                obtain ⟨q, hq⟩ : ∃ d, acc[p]? = some d := ⟨_, List.getElem?_eq_getElem (by omega)⟩
                obtain ⟨bo, oo, hAo, _, r0⟩ := int_at (hownr.ints HQ.out.1) hq
                subst hAo
                have hpl : (p : Int) < (acc.length : Int) := by omega
                have hp0 : (0 : Int) < (p : Int) + 1 := by omega
                have hpw : IntKind.i64.wrap ((p : Int) + 1 - 1) = (p : Int) := by rw [IntWalk.i64_in _ (by omega)]; omega
                by_cases hc : t.src < q
                · have HN : Hid (∀ i d, p ≤ i → acc[i]? = some d → t.src < d) := fun i d hi hd => by
                    by_cases hip : i = p
                    · subst hip; rw [hq] at hd; injection hd with hd; subst hd; exact hc
                    · exact HA.out i d (by omega) hd
                  clear hq
                  go_wp2_with fail
                  go_roundw
                  case rel => exact ⟨p, p, by omega, rfl, by go_num, hby, hb3, HN⟩
                  case measure => simp [intOf]
                · have hc' : q ≤ t.src := by omega
                  have HP : Hid (EndsQ g id bond true (k + 1) (acc.take (p + 1) ++ (t.src) :: acc.drop (p + 1))) := HPUT.out (p + 1) hp HA.out (.inr ⟨q, by simpa using hq, hc'⟩)
                  have hpo : (p : Int) + 1 ≤ (co : Int) := by omega
                  have hpl' : (p : Int) + 1 ≤ (acc.length : Int) := by omega
                  clear hc hq
                  -- p + 1: place; (fun _ => ⟨_, rfl, read_takeI hownr⟩): the head is read; (fun h => ⟨⟨bo, oo + (p + 1), none⟩, by have hne : ¬ co = p + 1 := (by omega); simp [hne, addr_add], read_dropI hown8a⟩): the tail is read; t.src: the number
                  have hws := hby.size
                  go_wp2_with (first
                    | (at_builtin; refine wpList_append_q _ rfl (.tmp 70) (.tmp 73) _ rfl w1.heap.size 3 i0 (.int .i64 0) 1 8 Tryz.underlying46 ei ez ez1 ez2 rfl (by decide) (.slice none 0 0) 0 [] rfl (Own.nil _ _ _ _) _ (p + 1) _ ((acc.take (p + 1)).map (Value.int .i64)) rfl (by rw [List.length_map, List.length_take]; omega) (fun _ => ⟨_, rfl, read_takeI hownr⟩) (one_ints _) (by unfold maxLen; omega) (by omega) (by omega) ?_
                       intro v7 w7 hown7 hg7 hat7
                       have hs7 := hg7.size
                       have hb7 : Below wr.heap.size wr w7 := (Below.refl _ _).grown hg7 (by omega) (fun k e => by cases e)
                       have hB7 : ∀ k, v7.ownBlock = some k → k = wr.heap.size := fun k e => by
                         rcases hat7 with h | h
                         · rw [h] at e; cases e
                         · rw [h] at e; injection e with e; omega
                       have hsw7 := hb7.size)
                    | (at_builtin; refine wpList_append_q _ rfl (.tmp 75) (.tmp 77) _ rfl w1.heap.size 3 i0 (.int .i64 0) 1 8 Tryz.underlying46 ei ez ez1 ez2 rfl (by decide) v7 (0 + (p + 1)) ([] ++ (acc.take (p + 1)).map (Value.int .i64)) rfl (hown7.alloc _) _ 1 1 [.int .i64 (t.src)] rfl rfl (fun _ => ⟨_, rfl, fun j u hj => by rw [addr_add, Nat.zero_add, World.cell?_alloc_at _ _ _ _ rfl]; simpa using hj⟩) (fun u hu => by simp at hu; subst hu; rfl) (by unfold maxLen; omega) (by omega) (by simp; omega) ?_
                       intro v8 w8 hown8 hg8 hat8
                       have hs8 := hg8.size
                       have hb8 : Below wr.heap.size wr w8 := (hb7.alloc hb7.size _).grown hg8 (by simp at hs8 ⊢; omega) (fun k e => by rw [hB7 k e]; exact Nat.le_refl _)
                       have hsw8 := hb8.size
                       have hown8a := hownr.below hb8)
                    | (at_builtin; refine wpList_append_q _ rfl (.tmp 79) (.tmp 82) _ rfl w1.heap.size 3 i0 (.int .i64 0) 1 8 Tryz.underlying46 ei ez ez1 ez2 rfl (by decide) v8 (0 + (p + 1) + 1) ([] ++ (acc.take (p + 1)).map (Value.int .i64) ++ [.int .i64 (t.src)]) rfl hown8 _ _ _ ((acc.drop (p + 1)).map (Value.int .i64)) rfl (by rw [List.length_map, List.length_drop]; omega) (fun h => ⟨⟨bo, oo + (p + 1), none⟩, by have hne : ¬ co = p + 1 := (by omega); simp [hne, addr_add], read_dropI hown8a⟩) (one_ints _) (by unfold maxLen; omega) (by omega) (by omega) ?_
                       intro v9 w9 hown9 hg9 hat9))
                  have hb9 : Below wr.heap.size wr w9 := hb8.grown hg9 (by have := hg9.size; omega) (fun k e => by
                    rcases hat8 with h | h
                    · rw [h] at e; rw [hB7 k e]; exact Nat.le_refl _
                    · rw [h] at e; injection e with e; simp at e; omega)
                  have hby9 := hby.trans (hb9.mono hby.size)
                  have hl9 : (acc.take (p + 1) ++ (t.src) :: acc.drop (p + 1)).length = acc.length + 1 := by simp <;> omega
                  have ho9 : Own w9 w1.heap.size 3 1 v9 (acc.take (p + 1) ++ (t.src) :: acc.drop (p + 1)).length ((acc.take (p + 1) ++ (t.src) :: acc.drop (p + 1)).map (Value.int .i64)) := hown9.cast (by rw [hl9]; omega) (by simp)
                  have hl2 : (acc.take (p + 1) ++ (t.src) :: acc.drop (p + 1)).length ≤ k + 1 := by omega
                  go_roundw
                  case rel => exact ⟨k + 1, _, by omega, by go_num, hby9, ho9, hl2, HP.out⟩
                  case measure => simp [intOf]; omega
          · have HN := Lib.hid (HKEEP.out (by rw [HET.out, decide_eq_true hq]; simpa using hi))
            have hib : (t.dst == id) = false := by rw [beq_eq_false_iff_ne]; exact hi
            clear HKEEP HPUT0 HET hq hi
            go_wp2_with fail
            go_roundw
            case rel => exact ⟨k + 1, acc, by omega, by go_num, hbx, hown, by omega, HN⟩
            case measure => simp [intOf]; omega
        · have HN := Lib.hid (HKEEP.out (by rw [HET.out, decide_eq_false hq]; rfl))
          rw [decide_eq_false hq] at hbb
          have hbc : ¬ t.bond.toList = bond.toList := by rw [bytes_eq]; exact hq
          clear HKEEP HPUT0 HET hq
          go_wp2_with fail
          go_roundw
          case rel => exact ⟨k + 1, acc, by omega, by go_num, hbx, hown, by omega, HN⟩
          case measure => simp [intOf]; omega
      · obtain rfl : k = g.ties.length := by omega
        have HE : Hid (endsS g id bond true = acc) := by
          obtain ⟨_, h2, h3⟩ := HQ.out
          rw [List.take_length] at h3
          exact (sortI_of h2 h3).symm
        have hsl := hown.ints HQ.out.1
        go_wp2_with fail
        go_ret
        exact ⟨_, rfl, by rw [HE.out]; exact hsl, hBr⟩
end Go.Proofs.YtpfpgmfdcafpnaaGreatDoor
