/- Parts: RefG, RfB, CkA, DwK, CkP, CkF, CkL, RlC. -/
import Derived.Test.YtngbbefpphinjaaGreatDoorMg07
import Derived.Test.YtngbbefpphinjaaGreatDoorMg12
import Derived.Deep.DeepCutAuto
import Derived.Test.YtngbbefpphinjaaGreatDoorMg18
import Derived.Test.YtngbbefpphinjaaGreatDoorMg17
import Derived.Test.YtngbbefpphinjaaGreatDoorMg02
import Derived.Test.YtngbbefpphinjaaGreatDoorMg09
import Derived.Test.YtngbbefpphinjaaGreatDoorMg19
import Derived.Test.YtngbbefpphinjaaGreatDoorMg20
/- Contract of the references: kinref1.Kinds: the first one that is wrong. -/
namespace Go.Proofs.YtngbbefpphinjaaGreatDoor
open Go Go.RowKit

end Go.Proofs.YtngbbefpphinjaaGreatDoor

/- Contracts of the references: kinref1.Bond, Schema, Right: what is wrong with a schema. No condition. -/
namespace Go.Proofs.YtngbbefpphinjaaGreatDoor
open Go Go.RowKit


end Go.Proofs.YtngbbefpphinjaaGreatDoor

/- Contracts of the references: kinref1.At, kinref1.Ready. No condition. -/
namespace Go.Proofs.YtngbbefpphinjaaGreatDoor
open Go Go.RowKit


set_option maxHeartbeats 1000000 in
theorem rat_any (l : List Prp) (name : ByteArray) (v : Value) (w : World) (hv : Sl prpL w v l) : Calls Tryz.prog 55 #[v, .string name] w fun e w' => e = .returned (.int .i64 (atI l name)) ∧ w = w' := by
  obtain ⟨A, c, rfl, hlc, hcm⟩ := hv.form
  unfold maxLen at hcm
  go_enter Tryz.func55, Tryz.ntmps55
  go_wp2_with fail
  go_loop [5] (fun i => ∃ k : Nat, k ≤ l.length ∧ i = .int .i64 k ∧ Hid (∀ j x, j < k → l[j]? = some x → decide (x.name = name) = false)) (fun i => l.length - (intOf i).toNat)
  case atStart => exact ⟨0, Nat.zero_le _, rfl, fun j x hj => absurd hj (Nat.not_lt_zero _)⟩
  case round =>
    obtain ⟨k, hk, rfl, HA⟩ := hrel
    by_cases hlt : k < l.length
    · obtain ⟨d, hd⟩ : ∃ d, l[k]? = some d := ⟨_, List.getElem?_eq_getElem hlt⟩
      obtain ⟨b, o, rfl, _, c0, _, _, _⟩ := prp_at hv hd
      have HD : Hid (l[k]? = some d) := hd
      clear hd hv
      by_cases hq0 : d.name = name
      · have hq : decide (d.name = name) = true := decide_eq_true hq0
        have HE : Hid (atI l name = k) := by unfold Hid atI; exact idxI_hit (p := fun k : Prp => decide (k.name = name)) HA.out HD.out hq
        clear hq
        subst hq0
        go_wp2_with fail
        go_ret
        exact ⟨by rw [HE.out]; rfl, rfl⟩
      · have hq : decide (d.name = name) = false := decide_eq_false hq0
        have hqb : (d.name.toList == name.toList) = false := by rw [bytes_beq]; exact hq
        have HS : Hid (∀ j y, j < k + 1 → l[j]? = some y → decide (y.name = name) = false) := miss_step (p := fun k : Prp => decide (k.name = name)) HA.out HD.out hq
        go_wp2_with fail
        go_round
        case rel => exact ⟨k + 1, by omega, by go_num, HS⟩
        case measure => simp [intOf]; omega
    · have hkl : k = l.length := by omega
      subst hkl
      have HE : Hid (atI l name = -1) := by unfold Hid atI; exact idxI_miss (p := fun k : Prp => decide (k.name = name)) HA.out
      clear hv
      go_wp2_with fail
      go_ret
      exact ⟨by rw [HE.out]; rfl, rfl⟩
end Go.Proofs.YtngbbefpphinjaaGreatDoor

/- Plain: the fields of a kind; a node by itself; keys. No condition. -/
namespace Go.Proofs.YtngbbefpphinjaaGreatDoor
open Go Go.RowKit

end Go.Proofs.YtngbbefpphinjaaGreatDoor

/- Plain: the document's faults of a node by itself, and its keys, are the program's. No condition. -/
namespace Go.Proofs.YtngbbefpphinjaaGreatDoor
open Go Go.RowKit

/-! ### A node by itself, as the document has it -/
end Go.Proofs.YtngbbefpphinjaaGreatDoor

/- Plain: all faults of a graph, as the document has them, are the program's. No condition. -/
namespace Go.Proofs.YtngbbefpphinjaaGreatDoor
open Go Go.RowKit

end Go.Proofs.YtngbbefpphinjaaGreatDoor

/- Contract: kinref1.Alone: the faults of a node by itself, as the document has them. No condition. -/
namespace Go.Proofs.YtngbbefpphinjaaGreatDoor
open Go Go.RowKit


end Go.Proofs.YtngbbefpphinjaaGreatDoor

/- Contract of the reference: kinref1.Diff: what is between two graphs, op by op. Conditions: both graphs are right. -/
namespace Go.Proofs.YtngbbefpphinjaaGreatDoor
open Go Go.RowKit



/-- Ops whose records read in a world. -/
def RefOps (W : World) : List Opr → List Value → Prop
  | [], xs => xs = []
  | d :: l, xs => ∃ u ys, xs = (oprCells d u).toList ++ ys ∧ I64 d.node.id ∧ Sm d.node.kind ∧ d.prop.ok ∧ d.tie.ok ∧ Sl prpL W u d.node.props ∧ RefOps W l ys
theorem RefOps.append {W : World} : ∀ {l m : List Opr} {xs ys : List Value}, RefOps W l xs → RefOps W m ys → RefOps W (l ++ m) (xs ++ ys)
  | [], _, xs, _, h, k => by rw [show xs = [] from h]; simpa using k
  | _ :: _, _, _, _, h, k => by
    obtain ⟨u, zs, rfl, h1, h2, h3, h4, h5, h6⟩ := h
    exact ⟨u, zs ++ _, by simp, h1, h2, h3, h4, h5, h6.append k⟩
theorem RefOps.one {W : World} {d : Opr} {u : Value} (h1 : I64 d.node.id) (h2 : Sm d.node.kind) (h3 : d.prop.ok) (h4 : d.tie.ok) (h5 : Sl prpL W u d.node.props) : RefOps W [d] (oprCells d u).toList :=
  ⟨u, [], by simp, h1, h2, h3, h4, h5, rfl⟩
theorem RefOps.row {W w : World} (hb : Below W.heap.size W w) : ∀ {l : List Opr} {xs : List Value}, RefOps W l xs → Row oprL w l xs
  | [], _, h => h
  | _ :: _, _, h => by
    obtain ⟨u, ys, rfl, h1, h2, h3, h4, h5, h6⟩ := h
    exact ⟨_, ys, rfl, ⟨u, rfl, h5.below hb, h2, h1, h3, h4⟩, h6.row hb⟩
/-- A row of ops that the call owns, of which the records read in W. -/
structure OpsF (W : World) (B : Nat) (w : World) (v : Value) (l : List Opr) (xs : List Value) : Prop where
  o : Own w B 37 11 v l.length xs
  r : RefOps W l xs
  b : B ≤ w.heap.size
theorem OpsF.nil {W : World} {B : Nat} {w : World} (h : B ≤ w.heap.size) : OpsF W B w (.slice none 0 0) [] [] := ⟨Own.nil _ _ _ _, rfl, h⟩
theorem OpsF.below {W : World} {B : Nat} {w w' : World} {v : Value} {l : List Opr} {xs : List Value} (h : OpsF W B w v l xs) (hb : Below w.heap.size w w') : OpsF W B w' v l xs := ⟨h.o.below hb, h.r, Nat.le_trans h.b hb.size⟩
theorem OpsF.sl {W : World} {B : Nat} {w : World} {v : Value} {l : List Opr} {xs : List Value} (h : OpsF W B w v l xs) (hb : Below W.heap.size W w) : Sl oprL w v l := Own.row (L := oprL) h.o (h.r.row hb)
theorem OpsF.push {W : World} {B : Nat} {wx w7 : World} {v v7 : Value} {l m : List Opr} {xs ys : List Value} {n : Nat} (hn : l.length = n) (hO : Own wx B 37 11 v n xs) (hR : RefOps W l xs) (hb : B ≤ wx.heap.size) (hM : RefOps W m ys)
    (ho : Own w7 B 37 11 v7 (n + m.length) (xs ++ ys)) (hg : wx.grownBy w7 v.ownBlock) : OpsF W B w7 v7 (l ++ m) (xs ++ ys) ∧ Below B wx w7 ∧ Same 29 wx w7 ∧ Same 35 wx w7 := by
  subst hn
  exact ⟨⟨by rw [List.length_append]; exact ho, hR.append hM, Nat.le_trans hb hg.size⟩, (Below.refl B wx).grown hg hb (fun k e => (hO.lt k e).1), Same.grown hO (by decide) hg, Same.grown hO (by decide) hg⟩
theorem rat_neg {r : List Prp} (h : recE r = 0) (nm : ByteArray) : decide (atI r nm < 0) = !rhas r nm := by
  rw [idx_prp (rec_ok h).2.2]
  cases rhas r nm with
  | true => simp
  | false => rfl
theorem rat_at {r : List Prp} (h : recE r = 0) {nm : ByteArray} {i : Nat} (hi : atI r nm = i) : rhas r nm = true ∧ rpos r nm = i := by
  rw [idx_prp (rec_ok h).2.2] at hi
  cases hq : rhas r nm with
  | true => rw [hq, if_pos rfl] at hi; exact ⟨rfl, by omega⟩
  | false => rw [hq] at hi; simp at hi
/-- Whether a property is set anew. -/
theorem set_new {x : List Prp} (hr : recE x = 0) {p : Prp} : (atI x p.name < 0 → decide (p ∉ x) = true) ∧ (∀ (i : Nat) q, atI x p.name = i → x[i]? = some q → decide (p ∉ x) = !decide (q.v = p.v)) := by
  refine ⟨fun h => ?_, fun i q hi hq => ?_⟩
  · rw [decide_eq_true_eq]
    intro hm
    have h1 := (rhas_mem hr p.name).2 ⟨p, hm, rfl⟩
    have h2 := rat_neg hr p.name
    rw [h1, decide_eq_true h] at h2
    cases h2
  · obtain ⟨h1, h2⟩ := rat_at hr hi
    obtain ⟨z, hz, hzn⟩ := (rhas_mem hr p.name).1 h1
    have h3 := rpos_of hr hz
    rw [hzn, h2, hq] at h3
    obtain rfl := Option.some.inj h3
    by_cases hv : q.v = p.v
    · have : q = p := by cases q; cases p; simp only at hzn hv; rw [hzn, hv]
      subst this
      simp [hz]
    · have hm : p ∉ x := fun hm => hv (by rw [name_uniq hr hz hm hzn])
      simp [hm, hv]
theorem dval_neq (x y : Val) (w : World) : (binOp .neq 31 (.agg #[.int .i64 x.ty, .int .i64 x.n, .string x.s]) (.agg #[.int .i64 y.ty, .int .i64 y.n, .string y.s])).run Tryz.prog w = .ok (.bool (!decide (x = y))) w := by
  rw [run_neq_struct, show (10000 : Nat) = 9998 + 2 from rfl, pval_same]; rfl
theorem dval_guard (op : BinOp) (a b : Operand) (xs ys : Array Value) (w : World) : (eqGuard op 31 a b (.agg xs) (.agg ys)).run Tryz.prog w = .ok () w := run_eqGuard_agg w op 31 a b xs ys (by kernel_rfl)
end Go.Proofs.YtngbbefpphinjaaGreatDoor
