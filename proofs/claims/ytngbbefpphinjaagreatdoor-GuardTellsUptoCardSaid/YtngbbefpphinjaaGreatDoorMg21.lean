/- Parts: RfG, CkI, OwnT, ChA, LinP, KpG, RdS, RdL, PutA. -/
import Derived.Test.YtngbbefpphinjaaGreatDoorMg20
import Derived.Test.YtngbbefpphinjaaGreatDoorMg13
import Derived.Test.YtngbbefpphinjaaGreatDoorMg03
import Derived.Test.YtngbbefpphinjaaGreatDoorMg15
import Derived.Deep.RegionHeld3
import Derived.Deep.RegionLaw
import Derived.Test.YtngbbefpphinjaaGreatDoorMg16
import Derived.Test.YtngbbefpphinjaaGreatDoorMg17
import Derived.Test.YtngbbefpphinjaaGreatDoorMg02
import Derived.Test.YtngbbefpphinjaaGreatDoorMg19
import Derived.Test.YtngbbefpphinjaaGreatDoorMg09
import Derived.Deep.DeepCutAuto
import Derived.Deep.CutBlock
/- Contracts of the references: kinref1.Id, Node, Tie, Less, Graph: what is wrong with a graph. No condition. -/
namespace Go.Proofs.YtngbbefpphinjaaGreatDoor
open Go Go.RowKit
theorem rid_any (n : Int) (w : World) : Calls Tryz.prog 41 #[.int .i64 n] w fun e w' => e = .returned (.bool (idB n)) /\ w = w' := by
 have HE : Hid (idB n = (decide (1 <= n) && decide (n <= 1000))) := rfl
 by_cases h1 : 1 <= n
 ·have HB : Hid (idB n = decide (n <= 1000)) := by unfold Hid; rw [HE.out, decide_eq_true h1]; rfl
  clear HE
  go_enter Tryz.func41, Tryz.ntmps41
  go_wp2_with fail
  go_ret
  exact ⟨by rw [HB.out]; rfl, rfl⟩
 have HB : Hid (idB n = false) := by unfold Hid; rw [HE.out, decide_eq_false h1]; rfl
 have h1' : n < 1 := by omega
 clear HE h1
 go_enter Tryz.func41, Tryz.ntmps41
 go_wp2_with fail
 go_ret
 exact ⟨by rw [HB.out]; rfl, rfl⟩
set_option maxHeartbeats 1000000 in
theorem rnode_any (n : Nod) (v : Value) (w : World) (hi : Sm n.kind) (hv : Sl prpL w v n.props) :
 Calls Tryz.prog 42 #[.agg #[.int .i64 n.id, .string n.kind, v]] w fun e w' => e = .returned (.int .i64 (nodE n)) /\ Below w.heap.size w w' := by
 obtain ⟨A, c, rfl, _, _⟩ := hv.form
 have HF : Hid (nodE n = if idB n.id = false then 1 else if nameE n.kind = 0 then recE n.props else nameE n.kind) := rfl
 obtain ⟨id, kind, props⟩ := n
 have hi' : Sm kind := hi
 have hv : Sl prpL w (.slice A props.length c) props := hv
 have hb0 : Below w.heap.size w (w.alloc (.cells #[.int .i64 id, .string kind, .slice A props.length c] 29)) := (Below.refl _ _).alloc (Nat.le_refl _) _
 have h1 := rid_any id (w.alloc (.cells #[.int .i64 id, .string kind, .slice A props.length c] 29))
 have h2 := rname_any kind (w.alloc (.cells #[.int .i64 id, .string kind, .slice A props.length c] 29)) hi'
 have h3 := rrecord_any props _ _ (hv.below hb0)
 cases hq : idB id with
 | false =>
  have HE : Hid (nodE ⟨id, kind, props⟩ = 1) := by unfold Hid; rw [HF.out]; simp only [hq, if_true]
  rw [hq] at h1
  clear hv h2 h3 hq HF
  go_enter Tryz.func42, Tryz.ntmps42
  go_wp2_with fail
  refine h1.mono ?_
  clear h1
  rintro e w1 ⟨rfl, rfl⟩
  go_wp2_with fail
  go_ret
  exact ⟨by rw [HE.out]; rfl, hb0⟩
 | true =>
  rw [hq] at h1
  by_cases hn : nameE kind = 0
  ·have HE : Hid (nodE ⟨id, kind, props⟩ = recE props) := by unfold Hid; rw [HF.out]; simp only [hq, hn, if_true, Bool.true_eq_false, if_false]
   rw [hn] at h2
   clear hv hq HF hn
   generalize recE props = z at *
   go_enter Tryz.func42, Tryz.ntmps42
   go_wp2_with fail
   refine h1.mono ?_
   clear h1
   rintro e w1 ⟨rfl, rfl⟩
   go_wp2_with fail
   refine h2.mono ?_
   clear h2
   rintro e w1 ⟨rfl, rfl⟩
   go_wp2_with fail
   refine h3.mono ?_
   clear h3
   rintro e w2 ⟨rfl, hb2⟩
   go_wp2_with fail
   go_ret
   exact ⟨by rw [HE.out]; rfl, hb0.trans (hb2.mono hb0.size)⟩
  have HE : Hid (nodE ⟨id, kind, props⟩ = 2) := by unfold Hid; rw [HF.out]; simp only [hq, hn, Bool.true_eq_false, if_false]; exact nameE_two hn
  rw [nameE_two hn] at h2
  clear hv hq HF hn h3
  go_enter Tryz.func42, Tryz.ntmps42
  go_wp2_with fail
  refine h1.mono ?_
  clear h1
  rintro e w1 ⟨rfl, rfl⟩
  go_wp2_with fail
  refine h2.mono ?_
  clear h2
  rintro e w1 ⟨rfl, rfl⟩
  go_wp2_with fail
  go_ret
  exact ⟨by rw [HE.out]; rfl, hb0⟩
set_option maxHeartbeats 1000000 in
theorem rtie_any (t : Tie) (w : World) (hs : Sm t.bond) :
 Calls Tryz.prog 43 #[.agg #[.string t.bond, .int .i64 t.src, .int .i64 t.dst]] w fun e w' => e = .returned (.int .i64 (tieE t)) /\ Below w.heap.size w w' := by
 have HF : Hid (tieE t = if nameE t.bond = 0 then (if (idB t.src && idB t.dst) then 0 else 1) else nameE t.bond) := rfl
 obtain ⟨bond, src, dst⟩ := t
 have hs : Sm bond := hs
 have hb0 : Below w.heap.size w (w.alloc (.cells #[.string bond, .int .i64 src, .int .i64 dst] 35)) := (Below.refl _ _).alloc (Nat.le_refl _) _
 have h1 := rname_any bond (w.alloc (.cells #[.string bond, .int .i64 src, .int .i64 dst] 35)) hs
 have h2 := rid_any src (w.alloc (.cells #[.string bond, .int .i64 src, .int .i64 dst] 35))
 have h3 := rid_any dst (w.alloc (.cells #[.string bond, .int .i64 src, .int .i64 dst] 35))
 by_cases hn : nameE bond = 0
 ·rw [hn] at h1
  have HG : Hid (tieE ⟨bond, src, dst⟩ = if (idB src && idB dst) then 0 else 1) := by unfold Hid; rw [HF.out]; simp only [hn, if_true]
  clear hn HF
  generalize idB src = p at *
  generalize idB dst = q at *
  cases p with
  | false =>
   have HE : Hid (tieE ⟨bond, src, dst⟩ = 1) := HG.out
   cases q with
   | false =>
    go_enter Tryz.func43, Tryz.ntmps43
    go_wp2_with fail
    refine h1.mono ?_
    clear h1
    rintro e w1 ⟨rfl, rfl⟩
    go_wp2_with fail
    refine h2.mono ?_
    clear h2
    rintro e w1 ⟨rfl, rfl⟩
    go_wp2_with fail
    refine h3.mono ?_
    clear h3
    rintro e w1 ⟨rfl, rfl⟩
    go_wp2_with fail
    go_ret
    exact ⟨by rw [HE.out]; rfl, hb0⟩
   | true =>
    go_enter Tryz.func43, Tryz.ntmps43
    go_wp2_with fail
    refine h1.mono ?_
    clear h1
    rintro e w1 ⟨rfl, rfl⟩
    go_wp2_with fail
    refine h2.mono ?_
    clear h2
    rintro e w1 ⟨rfl, rfl⟩
    go_wp2_with fail
    refine h3.mono ?_
    clear h3
    rintro e w1 ⟨rfl, rfl⟩
    go_wp2_with fail
    go_ret
    exact ⟨by rw [HE.out]; rfl, hb0⟩
  | true =>
   cases q with
   | false =>
    have HE : Hid (tieE ⟨bond, src, dst⟩ = 1) := HG.out
    go_enter Tryz.func43, Tryz.ntmps43
    go_wp2_with fail
    refine h1.mono ?_
    clear h1
    rintro e w1 ⟨rfl, rfl⟩
    go_wp2_with fail
    refine h2.mono ?_
    clear h2
    rintro e w1 ⟨rfl, rfl⟩
    go_wp2_with fail
    refine h3.mono ?_
    clear h3
    rintro e w1 ⟨rfl, rfl⟩
    go_wp2_with fail
    go_ret
    exact ⟨by rw [HE.out]; rfl, hb0⟩
   | true =>
    have HE : Hid (tieE ⟨bond, src, dst⟩ = 0) := HG.out
    go_enter Tryz.func43, Tryz.ntmps43
    go_wp2_with fail
    refine h1.mono ?_
    clear h1
    rintro e w1 ⟨rfl, rfl⟩
    go_wp2_with fail
    refine h2.mono ?_
    clear h2
    rintro e w1 ⟨rfl, rfl⟩
    go_wp2_with fail
    refine h3.mono ?_
    clear h3
    rintro e w1 ⟨rfl, rfl⟩
    go_wp2_with fail
    go_ret
    exact ⟨by rw [HE.out]; rfl, hb0⟩
 rw [nameE_two hn] at h1
 have HE : Hid (tieE ⟨bond, src, dst⟩ = 2) := by unfold Hid; rw [HF.out]; simp only [hn, if_false]; exact nameE_two hn
 clear hn HF
 generalize idB src = p at *
 generalize idB dst = q at *
 cases p with
 | false =>
  cases q with
  | false =>
   go_enter Tryz.func43, Tryz.ntmps43
   go_wp2_with fail
   refine h1.mono ?_
   clear h1
   rintro e w1 ⟨rfl, rfl⟩
   go_wp2_with fail
   refine h2.mono ?_
   clear h2
   rintro e w1 ⟨rfl, rfl⟩
   go_wp2_with fail
   refine h3.mono ?_
   clear h3
   rintro e w1 ⟨rfl, rfl⟩
   go_wp2_with fail
   go_ret
   exact ⟨by rw [HE.out]; rfl, hb0⟩
  | true =>
   go_enter Tryz.func43, Tryz.ntmps43
   go_wp2_with fail
   refine h1.mono ?_
   clear h1
   rintro e w1 ⟨rfl, rfl⟩
   go_wp2_with fail
   refine h2.mono ?_
   clear h2
   rintro e w1 ⟨rfl, rfl⟩
   go_wp2_with fail
   refine h3.mono ?_
   clear h3
   rintro e w1 ⟨rfl, rfl⟩
   go_wp2_with fail
   go_ret
   exact ⟨by rw [HE.out]; rfl, hb0⟩
 | true =>
  cases q with
  | false =>
   go_enter Tryz.func43, Tryz.ntmps43
   go_wp2_with fail
   refine h1.mono ?_
   clear h1
   rintro e w1 ⟨rfl, rfl⟩
   go_wp2_with fail
   refine h2.mono ?_
   clear h2
   rintro e w1 ⟨rfl, rfl⟩
   go_wp2_with fail
   refine h3.mono ?_
   clear h3
   rintro e w1 ⟨rfl, rfl⟩
   go_wp2_with fail
   go_ret
   exact ⟨by rw [HE.out]; rfl, hb0⟩
  | true =>
   go_enter Tryz.func43, Tryz.ntmps43
   go_wp2_with fail
   refine h1.mono ?_
   clear h1
   rintro e w1 ⟨rfl, rfl⟩
   go_wp2_with fail
   refine h2.mono ?_
   clear h2
   rintro e w1 ⟨rfl, rfl⟩
   go_wp2_with fail
   refine h3.mono ?_
   clear h3
   rintro e w1 ⟨rfl, rfl⟩
   go_wp2_with fail
   go_ret
   exact ⟨by rw [HE.out]; rfl, hb0⟩
theorem less_bond {a b : Tie} (h : a.bond ≠ b.bond) : decide (tieO a b < 0) = Op.bytesLess a.bond.toList b.bond.toList := by
 have h1 : cmpS a.bond b.bond ≠ 0 := fun e => h (cmpS_zero.1 e)
 have h2 : Op.bytesLess a.bond.toList b.bond.toList = decide (cmpS a.bond b.bond < 0) := ltS_cmp a.bond b.bond
 rw [h2]
 unfold tieO orI
 rw [if_neg h1]
theorem less_src {a b : Tie} (h : a.bond = b.bond) (h2 : a.src ≠ b.src) : decide (tieO a b < 0) = decide (a.src < b.src) := by
 have h1 : cmpS a.bond b.bond = 0 := cmpS_zero.2 h
 unfold tieO orI
 rw [if_pos h1]
 unfold orI cmpI
 by_cases h3 : a.src < b.src
 ·simp [h3]
 have h4 : b.src < a.src := by omega
 simp [h3, h4]
theorem less_dst {a b : Tie} (h : a.bond = b.bond) (h2 : a.src = b.src) : decide (tieO a b < 0) = decide (a.dst < b.dst) := by
 have h1 : cmpS a.bond b.bond = 0 := cmpS_zero.2 h
 unfold tieO orI
 rw [if_pos h1]
 unfold orI cmpI
 rw [h2]
 by_cases h3 : a.dst < b.dst
 ·simp [h3, orI]
 by_cases h4 : b.dst < a.dst <;> simp [h3, h4, orI]
set_option maxHeartbeats 1000000 in
theorem rless_any (a b : Tie) (w : World) :
 Calls Tryz.prog 44 #[.agg #[.string a.bond, .int .i64 a.src, .int .i64 a.dst], .agg #[.string b.bond, .int .i64 b.src, .int .i64 b.dst]] w fun e w' => e = .returned (.bool (decide (tieO a b < 0))) /\ Below w.heap.size w w' := by
 have hb0 : Below w.heap.size w ((w.alloc (.cells #[.string a.bond, .int .i64 a.src, .int .i64 a.dst] 35)).alloc (.cells #[.string b.bond, .int .i64 b.src, .int .i64 b.dst] 35)) := ((Below.refl _ _).alloc (Nat.le_refl _) _).alloc (by simp) _
 have hbb : (a.bond.toList == b.bond.toList) = decide (a.bond = b.bond) := bytes_beq a.bond b.bond
 by_cases h1 : a.bond = b.bond
 ·rw [decide_eq_true h1] at hbb
  have hbc : a.bond.toList = b.bond.toList := by rw [h1]
  by_cases h2 : a.src = b.src
  ·have HE : Hid (decide (tieO a b < 0) = decide (a.dst < b.dst)) := less_dst h1 h2
   have h2b : (a.src != b.src) = false := by simpa using h2
   clear h1 h2
   go_enter Tryz.func44, Tryz.ntmps44
   go_wp2_with fail
   go_ret
   exact ⟨by rw [HE.out]; rfl, hb0⟩
  have HE : Hid (decide (tieO a b < 0) = decide (a.src < b.src)) := less_src h1 h2
  have h2b : (a.src != b.src) = true := by simpa using h2
  clear h1 h2
  go_enter Tryz.func44, Tryz.ntmps44
  go_wp2_with fail
  go_ret
  exact ⟨by rw [HE.out]; rfl, hb0⟩
 have HE : Hid (decide (tieO a b < 0) = Op.bytesLess a.bond.toList b.bond.toList) := less_bond h1
 rw [decide_eq_false h1] at hbb
 have hbc : ¬ a.bond.toList = b.bond.toList := by rw [bytes_eq]; exact h1
 clear h1
 go_enter Tryz.func44, Tryz.ntmps44
 go_wp2_with fail
 go_ret
 exact ⟨by rw [HE.out]; rfl, hb0⟩
def atI (r : List Prp) (name : ByteArray) : Int := idxI (fun p => decide (p.name = name)) r
open Go
theorem idx_low {D : Type} {R : D -> D -> Bool} {c : D -> Int} {p : D -> Bool} {l : List D} (hc : chain R l = true) (mono : ∀ a b, R a b = true -> 0 <= c a -> 0 <= c b) (hz : ∀ a b, R a b = true -> c b = 0 -> c a < 0) (hp : ∀ x, p x = decide (c x = 0)) :
 idxI p l = if eqAt c l (lowI c l) = true then (lowI c l : Int) else -1 := by
 cases hq : eqAt c l (lowI c l) with
 | true =>
  rw [if_pos rfl]
  unfold eqAt at hq
  cases hd : l[lowI c l]? with
  | none => rw [hd] at hq; cases hq
  | some d =>
   rw [hd] at hq
   have h0 : c d = 0 := by simpa using hq
   refine idxI_hit (fun j x hj hx => ?_) hd (by rw [hp]; exact decide_eq_true h0)
   have := low_lt hj hx
   rw [hp]; exact decide_eq_false (by omega)
 | false =>
  rw [if_neg (by simp)]
  obtain ⟨b1, b2⟩ := low_parts hc mono hq hz
  refine idxI_miss fun j x hj hx => ?_
  have hm : x ∈ l := List.mem_of_getElem? hx
  rw [<- List.take_append_drop (lowI c l) l] at hm
  rw [hp]
  rcases List.mem_append.1 hm with h | h
  ·have := b1 x h; exact decide_eq_false (by omega)
  have := b2 x h; exact decide_eq_false (by omega)
theorem idx_nod {l : List Nod} (hc : chain nodLt l = true) (id : Int) : rfI l id = if fhas l id = true then (fpos l id : Int) else -1 := by
 unfold rfI fhas fpos
 refine idx_low hc (nodC_mono id) (fun a b hab hb => ?_) (fun x => ?_)
 ·unfold nodLt at hab; unfold nodC at *
  have := of_decide_eq_true hab
  exact cmpI_neg.2 (by rw [<- cmpI_zero.1 hb]; exact this)
 unfold nodC
 by_cases h : x.id = id
 ·rw [decide_eq_true h, decide_eq_true (cmpI_zero.2 h)]
 rw [decide_eq_false h, decide_eq_false (fun e => h (cmpI_zero.1 e))]
theorem idx_tie {l : List Tie} (hc : chain tieLt l = true) (t : Tie) : idxI (fun u => decide (u = t)) l = if thas l t = true then (tpos l t : Int) else -1 := by
 unfold thas tpos
 refine idx_low hc (tieC_mono t) (fun a b hab hb => ?_) (fun x => ?_)
 ·unfold tieLt at hab; unfold tieC at *
  rw [<- tieO_zero.1 hb]; exact of_decide_eq_true hab
 unfold tieC
 by_cases h : x = t
 ·rw [decide_eq_true h, decide_eq_true (tieO_zero.2 h)]
 rw [decide_eq_false h, decide_eq_false (fun e => h (tieO_zero.1 e))]
structure Kp (b : Nat) (w w' : World) : Prop where
 s : w.heap.size <= w'.heap.size
 k : ∀ k, k < w.heap.size -> k ≠ b -> w'.heap[k]? = w.heap[k]?
theorem Kp.refl (b : Nat) (w : World) : Kp b w w := ⟨Nat.le_refl _, fun _ _ _ => rfl⟩
theorem Kp.below {b : Nat} {w w' w'' : World} (h : Kp b w w') (hb : Below w'.heap.size w' w'') : Kp b w w'' :=
 ⟨Nat.le_trans h.s hb.size, fun k h1 h2 => (hb.block k (Nat.lt_of_lt_of_le h1 h.s)).trans (h.k k h1 h2)⟩
theorem Kp.set {b : Nat} {w w' : World} (h : Kp b w w') (i : Nat) (u : Value) : Kp b w (w'.setCell ⟨b, i, none⟩ u) :=
 ⟨by simpa [World.setCell] using h.s, fun k h1 h2 => (Below.heap_setCell w' ⟨b, i, none⟩ u k h2).trans (h.k k h1 h2)⟩
theorem Kp.grown {b : Nat} {w w' w'' : World} (h : Kp b w w') {e : TypeId} {sz n : Nat} {v : Value} {xs : List Value} (ho : Own w' w.heap.size e sz v n xs) (hg : w'.grownBy w'' v.ownBlock) : Kp b w w'' :=
 ⟨Nat.le_trans h.s hg.size, fun k h1 h2 => (hg.block k (Nat.lt_of_lt_of_le h1 h.s) fun e' => by have := (ho.lt k e'.symm).1; omega).trans (h.k k h1 h2)⟩
structure RdS (w W0 : World) (bu : Nat) (wX : World) (vn vt : Value) : Prop where
 k : Kp bu W0 wX
 b : Below w.heap.size w wX
 q : wX.heap[bu]? = some (.cells #[vn, vt] 25 (0, 0))
 u : w.heap.size <= bu
section
variable {w W0 wX wY : World} {bu : Nat} {vn vt : Value}
theorem RdS.below (h : RdS w W0 bu wX vn vt) (hb : Below wX.heap.size wX wY) : RdS w W0 bu wY vn vt :=
 ⟨h.k.below hb, h.b.trans (hb.mono h.b.size), (hb.block _ (geB h.q)).trans h.q, h.u⟩
theorem RdS.old (h : RdS w W0 bu wX vn vt) {k : Nat} {o : Obj} (hk : W0.heap[k]? = some o) (hne : k ≠ bu) : wX.heap[k]? = some o := (h.k.k k (geB hk) hne).trans hk
theorem RdS.setN (h : RdS w W0 bu wX vn vt) (u : Value) : RdS w W0 bu (wX.setCell ⟨bu, 0, none⟩ u) u vt := ⟨h.k.set 0 u, h.b.setCell (p := ⟨bu, 0, none⟩) h.u u, setCell_block h.q 0 u, h.u⟩
theorem RdS.setT (h : RdS w W0 bu wX vn vt) (u : Value) : RdS w W0 bu (wX.setCell ⟨bu, 1, none⟩ u) vn u := ⟨h.k.set 1 u, h.b.setCell (p := ⟨bu, 1, none⟩) h.u u, setCell_block h.q 1 u, h.u⟩
theorem RdS.same (h : RdS w W0 bu wX vn vt) (i : Nat) (u : Value) {T : TypeId} (hT : 25 ≠ T) : Same T wX (wX.setCell ⟨bu, i, none⟩ u) := Same.setCell (p := ⟨bu, i, none⟩) h.q hT u
theorem RdS.grown (h : RdS w W0 bu wX vn vt) {e : TypeId} {sz n : Nat} {v : Value} {xs : List Value} (ho : Own wX W0.heap.size e sz v n xs) (hw : w.heap.size <= W0.heap.size) (hne : 25 ≠ e) (hg : wX.grownBy wY v.ownBlock) : RdS w W0 bu wY vn vt :=
 ⟨h.k.grown ho hg, h.b.grown hg h.b.size (fun k e => Nat.le_trans hw (ho.lt k e).1), grown_block hg h.q (ho.ne_block h.q hne), h.u⟩
theorem RdS.cellAt (h : RdS w W0 bu wX vn vt) {p : Addr} (h1 : W0.heap.size <= p.block) (h2 : p.block ≠ bu) (hw : w.heap.size <= W0.heap.size) (u : Value) : RdS w W0 bu (wX.setCell p u) vn vt :=
 ⟨⟨by simpa [World.setCell] using h.k.s, fun k hk hne => (Below.heap_setCell wX p u k (by omega)).trans (h.k.k k hk hne)⟩, h.b.setCell (p := p) (Nat.le_trans hw h1) u, (Below.heap_setCell wX p u bu (Ne.symm h2)).trans h.q, h.u⟩
end
def Stay (w0 w w' : World) : Prop := Below w0.heap.size w0 w' /\ ∀ T, 25 ≠ T -> Same T w w'
theorem Stay.refl {w0 w : World} (h : Below w0.heap.size w0 w) : Stay w0 w w := ⟨h, fun _ _ => Same.refl _ _⟩
theorem Stay.from {w0 w w1 w' : World} (h : Stay w0 w1 w') (hb : Below w.heap.size w w1) : Stay w0 w w' := ⟨h.1, fun T hT => (Same.below hb).trans (h.2 T hT)⟩
def SlS {D : Type} (L : Lay D) (w0 w : World) (v : Value) (l : List D) : Prop := ∃ A c xs, v = .slice A l.length c /\ l.length <= c /\ c <= maxLen /\ ∀ w', Stay w0 w w' -> Row L w' l xs /\ (0 < l.length -> ∃ b o, A = some ⟨b, o, none⟩ /\ ∀ j u, xs[j]? = some u -> w'.cell? ⟨b, o + j, none⟩ = some u)
def GrfS (w0 w : World) (vn vt : Value) (g : Grf) : Prop := SlS nodL w0 w vn g.nodes /\ SlS tieL w0 w vt g.ties
section
variable {D : Type} {L : Lay D} {w0 w w1 : World} {v : Value} {l : List D}
theorem SlS.sl (h : SlS L w0 w v l) (hb : Below w0.heap.size w0 w) : Sl L w v l := by
 obtain ⟨A, c, xs, rfl, h1, h2, h3⟩ := h
 obtain ⟨hr, hc⟩ := h3 w (Stay.refl hb)
 refine ⟨A, c, rfl, h1, h2, fun i d hi => ?_⟩
 obtain ⟨b, o, rfl, hx⟩ := hc (len_pos hi)
 obtain ⟨cs, hcs, hj⟩ := hr.get hi
 refine ⟨b, o, cs, rfl, hcs, fun j u hu => ?_⟩
 exact (Nat.add_assoc o (i * L.sz) j).symm ▸ hx _ u (hj j u hu)
theorem SlS.stay (h : SlS L w0 w v l) (hs : ∀ w', Stay w0 w1 w' -> Stay w0 w w') : SlS L w0 w1 v l := by
 obtain ⟨A, c, xs, rfl, h1, h2, h3⟩ := h
 exact ⟨A, c, xs, rfl, h1, h2, fun w' hw => h3 w' (hs w' hw)⟩
theorem SlS.nil (w0 w : World) : SlS L w0 w (.slice none 0 0) [] := ⟨none, 0, [], rfl, Nat.le_refl _, Nat.zero_le _, fun _ _ => ⟨rfl, fun h => absurd h (Nat.lt_irrefl _)⟩⟩
theorem Own.slS {B : Nat} {e : TypeId} {xs : List Value} (h : Own w B e L.sz v l.length xs) (hne : 25 ≠ e) (hr : ∀ w', Stay w0 w w' -> Row L w' l xs) : SlS L w0 w v l := by
 obtain ⟨A, c, rfl, h1, h2⟩ := h.form
 refine ⟨A, c, xs, rfl, h1, h2, fun w' hw => ⟨hr w' hw, fun hn => ?_⟩⟩
 have h' := h.same (hw.2 e hne)
 obtain ⟨b, o, c', hv, _, _⟩ := h'.addr hn
 injection hv with hA _ hc
 subst hA; subst hc
 exact ⟨b, o, rfl, fun j u hj => h'.cell rfl hj⟩
theorem Sl.slS (h : Sl L w0 v l) : SlS L w0 w v l := by
 obtain ⟨A, c, rfl, h1, h2⟩ := h.form
 obtain ⟨xs, hr, hc⟩ := Row.of_sl h
 refine ⟨A, c, xs, rfl, h1, h2, fun w' hw => ⟨hr.below hw.1, fun hn => ?_⟩⟩
 obtain ⟨b, o, hA, hx⟩ := hc hn
 exact ⟨b, o, hA, fun j u hj => cell_below hw.1 (hx j u hj)⟩
end
theorem flat_row {D : Type} {n : Nat} {ok : D -> Prop} {enc : D -> List Value} (hn : ∀ d, (enc d).length = n) {w : World} : ∀ {l : List D}, (∀ x ∈ l, ok x) -> Row (flatL n ok enc hn) w l (l.flatMap enc)
 | [], _ => rfl
 | d :: l, h => ⟨enc d, l.flatMap enc, by simp, ⟨rfl, h d (by simp)⟩, flat_row hn fun x hx => h x (by simp [hx])⟩
theorem GrfS.r {w0 w : World} {vn vt : Value} {g : Grf} (h : GrfS w0 w vn vt g) (hb : Below w0.heap.size w0 w) : GrfR w vn vt g := ⟨h.1.sl hb, h.2.sl hb⟩
theorem GrfR.s {w0 w : World} {vn vt : Value} {g : Grf} (h : GrfR w0 vn vt g) : GrfS w0 w vn vt g := ⟨h.1.slS, h.2.slS⟩
theorem GrfS.stay {w0 w w1 : World} {vn vt : Value} {g : Grf} (h : GrfS w0 w vn vt g) (hs : ∀ w', Stay w0 w1 w' -> Stay w0 w w') : GrfS w0 w1 vn vt g := ⟨h.1.stay hs, h.2.stay hs⟩
def RetGI (w0 : World) (g : Grf) (n : Int) (w : World) (e : Ending) (w' : World) : Prop := ∃ vn vt, e = .returned (.tuple #[.agg #[vn, vt], .int .i64 n]) /\ GrfS w0 w' vn vt g /\ Below w.heap.size w w'
theorem nodT_info : (Tryz.prog.info? 29).map (fun i => (i.zero, i.size, i.bytes)) = some (some (.agg #[.int .i64 0, .string .empty, .slice none 0 0]), 3, 48) := by kernel_rfl
theorem tieT_info : (Tryz.prog.info? 35).map (fun i => (i.zero, i.size, i.bytes)) = some (some (.agg #[.string .empty, .int .i64 0, .int .i64 0]), 3, 32) := by kernel_rfl
theorem cut_headN (A : Option Addr) (c n k : Nat) (hk : k <= c) (W : World) : (Instr.slice 22 (.slice A n c) none (some (.int .i64 (k : Int))) none).run Tryz.prog W = .ok (.slice A k c) W := by
 have hs : (sizeOf (Tryz.prog.elem (22))).run Tryz.prog W = .ok 3 W := by kernel_rfl
 rw [run_slice_h _ _ _ _ _ (by kernel_rfl) .i64 (k : Int) (by omega) (by omega), hs]
 simp only [Result.andThen, sliced, Nat.zero_mul, Nat.sub_zero, Int.toNat_natCast]
 have : (if c = 0 then A else A.map (fun a => a.add 0)) = A := by
  split
  ·rfl
  cases A with
  | none => rfl
  | some a => simp [Addr.add]
 rw [this]
theorem cut_tailN (A : Option Addr) (c n k : Nat) (hk : k <= n) (W : World) : (Instr.slice 22 (.slice A n c) (some (.int .i64 (k : Int))) none none).run Tryz.prog W = .ok (.slice (if c = k then A else A.map (fun a => a.add (k * 3))) (n - k) (c - k)) W := by
 have hs : (sizeOf (Tryz.prog.elem (22))).run Tryz.prog W = .ok 3 W := by kernel_rfl
 rw [run_slice_l _ _ _ _ _ (by kernel_rfl) .i64 (k : Int) (by omega) (by omega), hs]
 simp only [Result.andThen, sliced, Int.toNat_natCast]
theorem cut_headT (A : Option Addr) (c n k : Nat) (hk : k <= c) (W : World) : (Instr.slice 23 (.slice A n c) none (some (.int .i64 (k : Int))) none).run Tryz.prog W = .ok (.slice A k c) W := by
 have hs : (sizeOf (Tryz.prog.elem (23))).run Tryz.prog W = .ok 3 W := by kernel_rfl
 rw [run_slice_h _ _ _ _ _ (by kernel_rfl) .i64 (k : Int) (by omega) (by omega), hs]
 simp only [Result.andThen, sliced, Nat.zero_mul, Nat.sub_zero, Int.toNat_natCast]
 have : (if c = 0 then A else A.map (fun a => a.add 0)) = A := by
  split
  ·rfl
  cases A with
  | none => rfl
  | some a => simp [Addr.add]
 rw [this]
theorem cut_tailT (A : Option Addr) (c n k : Nat) (hk : k <= n) (W : World) : (Instr.slice 23 (.slice A n c) (some (.int .i64 (k : Int))) none none).run Tryz.prog W = .ok (.slice (if c = k then A else A.map (fun a => a.add (k * 3))) (n - k) (c - k)) W := by
 have hs : (sizeOf (Tryz.prog.elem (23))).run Tryz.prog W = .ok 3 W := by kernel_rfl
 rw [run_slice_l _ _ _ _ _ (by kernel_rfl) .i64 (k : Int) (by omega) (by omega), hs]
 simp only [Result.andThen, sliced, Int.toNat_natCast]
theorem tail_cells {w : World} {A : Option Addr} {n c k : Nat} {xs : List Value} (hx : 0 < n -> ∃ b o, A = some ⟨b, o, none⟩ /\ ∀ j u, xs[j]? = some u -> w.cell? ⟨b, o + j, none⟩ = some u) (hnc : n <= c) (hk : k <= n) :
 0 < n - k -> ∃ a, (if c = k then A else A.map (fun a => a.add (k * 3))) = some a /\ ∀ j u, (xs.drop (k * 3))[j]? = some u -> w.cell? (a.add j) = some u := fun h => by
 obtain ⟨b, o, rfl, hc⟩ := hx (by omega)
 rw [if_neg (by omega)]
 refine ⟨_, rfl, fun j u hj => ?_⟩
 rw [List.getElem?_drop] at hj
 show w.cell? (((⟨b, o, none⟩ : Addr).add (k * 3)).add j) = some u
 rw [addr_add, addr_add]
 have := hc _ u hj
 rwa [<- Nat.add_assoc] at this
theorem head_cells {w : World} {A : Option Addr} {n k : Nat} {xs : List Value} (hx : 0 < n -> ∃ b o, A = some ⟨b, o, none⟩ /\ ∀ j u, xs[j]? = some u -> w.cell? ⟨b, o + j, none⟩ = some u) (hk : k <= n) :
 0 < k -> ∃ a, A = some a /\ ∀ j u, (xs.take (k * 3))[j]? = some u -> w.cell? (a.add j) = some u := fun h => by
 obtain ⟨b, o, rfl, hc⟩ := hx (by omega)
 refine ⟨_, rfl, fun j u hj => ?_⟩
 rw [List.getElem?_take] at hj
 split at hj
 ·rw [addr_add]; exact hc j u hj
 cases hj
theorem doE_right {g : Grf} (h : grfE g = 0) (o : Opr) : doE g o = opE g o /\ (opE g o ≠ 0 -> doG g o = ⟨[], []⟩) /\ (opE g o = 0 -> doG g o = opG g o) := by
 have e : doE g o = opE g o := by unfold doE; rw [if_pos h]
 exact ⟨e, fun h => by unfold doG; rw [if_neg (by rw [e]; exact h)], fun h => by unfold doG; rw [if_pos (by rw [e]; exact h)]⟩
theorem born_parts (g : Grf) (node : Nod) (prop : Prp) (tie : Tie) (h : grfE g = 0) : (nodE node ≠ 0 -> doE g ⟨1, node, prop, tie⟩ = nodE node /\ doG g ⟨1, node, prop, tie⟩ = ⟨[], []⟩) /\ (nodE node = 0 -> fhas g.nodes node.id = true -> doE g ⟨1, node, prop, tie⟩ = 7 /\ doG g ⟨1, node, prop, tie⟩ = ⟨[], []⟩) /\
 (nodE node = 0 -> fhas g.nodes node.id = false -> 60 <= g.nodes.length -> doE g ⟨1, node, prop, tie⟩ = 4 /\ doG g ⟨1, node, prop, tie⟩ = ⟨[], []⟩) /\
 (nodE node = 0 -> fhas g.nodes node.id = false -> ¬ 60 <= g.nodes.length -> doE g ⟨1, node, prop, tie⟩ = 0 /\ doG g ⟨1, node, prop, tie⟩ = ⟨g.nodes.take (fpos g.nodes node.id) ++ node :: g.nodes.drop (fpos g.nodes node.id), g.ties⟩) := by
 obtain ⟨d1, d2, d3⟩ := doE_right h ⟨1, node, prop, tie⟩
 have e : opE g ⟨1, node, prop, tie⟩ = bornE g node := by unfold opE; rw [if_pos rfl]
 have eG : opG g ⟨1, node, prop, tie⟩ = bornG g node := by unfold opG; rw [if_pos rfl]
 refine ⟨fun hn => ?_, fun hn hf => ?_, fun hn hf hl => ?_, fun hn hf hl => ?_⟩
 ·have h1 : opE g ⟨1, node, prop, tie⟩ = nodE node := by rw [e]; unfold bornE; rw [if_neg hn]
  exact ⟨by rw [d1, h1], d2 (by rw [h1]; exact hn)⟩
 ·have h1 : opE g ⟨1, node, prop, tie⟩ = 7 := by rw [e]; unfold bornE; rw [if_pos hn, if_pos hf]
  exact ⟨by rw [d1, h1], d2 (by rw [h1]; omega)⟩
 ·have h1 : opE g ⟨1, node, prop, tie⟩ = 4 := by rw [e]; unfold bornE; rw [if_pos hn, if_neg (by rw [hf]; simp), if_pos hl]
  exact ⟨by rw [d1, h1], d2 (by rw [h1]; omega)⟩
 have h1 : opE g ⟨1, node, prop, tie⟩ = 0 := by rw [e]; unfold bornE; rw [if_pos hn, if_neg (by rw [hf]; simp), if_neg hl]
 exact ⟨by rw [d1, h1], by rw [d3 h1, eG]; rfl⟩
theorem low_at {D : Type} {c : D -> Int} {l : List D} {d : D} (h : l[lowI c l]? = some d) : 0 <= c d := by
 obtain ⟨hl, rfl⟩ := List.getElem?_eq_some_iff.1 h
 have := List.findIdx_getElem (xs := l) (p := fun d => decide (0 <= c d)) (w := hl)
 exact of_decide_eq_true this
theorem Row.put3 {w : World} {d' : Nod} {a b c : Value} (hc : nodL.cells w d' [a, b, c]) : ∀ {l : List Nod} {xs : List Value} {i : Nat} {d : Nod}, Row nodL w l xs -> l[i]? = some d -> Row nodL w (l.set i d') (((xs.set (i * 3) a).set (i * 3 + 1) b).set (i * 3 + 2) c)
 | [], xs, i, d, h, hi => by simp at hi
 | e :: l, xs, 0, d, h, hi => by
  obtain ⟨cs, ys, rfl, ⟨v, rfl, _⟩, h5⟩ := h
  exact ⟨[a, b, c], ys, rfl, hc, h5⟩
 | e :: l, xs, i + 1, d, h, hi => by
  obtain ⟨cs, ys, rfl, ⟨v, rfl, h1⟩, h5⟩ := h
  have ih := Row.put3 hc h5 (by simpa using hi)
  have e0 : (i + 1) * 3 = i * 3 + 1 + 1 + 1 := by omega
  have e1 : (i + 1) * 3 + 1 = i * 3 + 1 + 1 + 1 + 1 := by omega
  have e2 : (i + 1) * 3 + 2 = i * 3 + 2 + 1 + 1 + 1 := by omega
  rw [e2, e1, e0]
  exact ⟨_, ((ys.set (i * 3) a).set (i * 3 + 1) b).set (i * 3 + 2) c, rfl, ⟨v, rfl, h1⟩, ih⟩
theorem ints_take {w : World} {bo oo n c t : Nat} {l : List Int} (h : Sl intL w (.slice (some ⟨bo, oo, none⟩) n c) l) :
 ∀ j u, ((l.take t).map (Value.int .i64))[j]? = some u -> w.cell? ((⟨bo, oo, none⟩ : Addr).add j) = some u := by
 intro j u hj
 rw [List.getElem?_map] at hj
 obtain ⟨d, hd, rfl⟩ := Option.map_eq_some_iff.1 hj
 rw [List.getElem?_take] at hd
 split at hd
 ·obtain ⟨b, o, e, _, hc⟩ := int_at h hd
  injection e with e; injection e with e1 e2
  subst e1; subst e2
  rw [addr_add]; exact hc
 cases hd
theorem ints_drop {w : World} {bo oo n c t : Nat} {l : List Int} (h : Sl intL w (.slice (some ⟨bo, oo, none⟩) n c) l) :
 ∀ j u, ((l.drop t).map (Value.int .i64))[j]? = some u -> w.cell? ((⟨bo, oo + t, none⟩ : Addr).add j) = some u := by
 intro j u hj
 rw [List.getElem?_map] at hj
 obtain ⟨d, hd, rfl⟩ := Option.map_eq_some_iff.1 hj
 rw [List.getElem?_drop] at hd
 obtain ⟨b, o, e, _, hc⟩ := int_at h hd
 injection e with e; injection e with e1 e2
 subst e1; subst e2
 rw [addr_add, Nat.add_assoc]; exact hc
theorem ints_ok {w : World} {v : Value} {l : List Int} (h : Sl intL w v l) : ∀ x ∈ l, I64 x := fun x hx => by
 obtain ⟨A, c, rfl, _, _⟩ := h.form
 obtain ⟨k, hk⟩ := List.mem_iff_getElem?.1 hx
 obtain ⟨_, _, _, hi, _⟩ := int_at h hk
 exact hi
theorem ints_row {w : World} : ∀ (l : List Int), (∀ x ∈ l, I64 x) -> Row intL w l (l.map (Value.int .i64))
 | [], _ => rfl
 | d :: l, h => ⟨[.int .i64 d], l.map (Value.int .i64), by simp, ⟨rfl, h d (by simp)⟩, ints_row l fun x hx => h x (by simp [hx])⟩
set_option maxRecDepth 100000 in
set_option maxHeartbeats 4000000 in
theorem put2_any (l : List Int) (n : Int) (v : Value) (wB w : World) (hbB : Below wB.heap.size wB w) (hvS : SlS intL wB w v l) (hr : RiseI l) (hl : l.length <= 100000) (hn : I64 n) :
 Calls Tryz.prog 68 #[v, .int .i64 n] w fun e w' => ∃ u, e = .returned u /\ SlS intL wB w' u (putN l n) /\ Below w.heap.size w w' := by
 obtain ⟨i0, ei, ez, ez1, ez2⟩ := info_parts int_info
 have hv := hvS.sl hbB
 have HVS := Lib.hid hvS
 clear hvS hbB
 obtain ⟨A, c, rfl, hlc, hcm⟩ := hv.form
 unfold maxLen at hcm
 have HV := Lib.hid hv
 have HI : Hid (∀ x ∈ putN l n, I64 x) := fun x hx => by
  rcases (putN_mem l n x).1 hx with h | rfl
  ·exact ints_ok hv x h
  exact hn
 have HHAS : Hid (∀ (k : Nat), l[k]? = some n -> putN l n = l) := fun k h => putN_has h
 have HNEW : Hid (∀ k, k <= l.length -> (∀ j x, k <= j -> l[j]? = some x -> n < x) -> (∀ j x, j + 1 = k -> l[j]? = some x -> x < n) -> putN l n = l.take k ++ n :: l.drop k) := fun k hk h1 h2 => putN_new hr hk h1 h2
 clear hr hn
 go_enter Tryz.func68, Tryz.ntmps68
 go_wp2_with fail
 go_loop [5] (fun tv => ∃ (z : Int) (p : Nat), p <= l.length /\ z = p /\ tv = .int .i64 z /\ Hid (∀ i d, p <= i -> l[i]? = some d -> n < d)) (fun tv => (intOf tv).toNat)
 case atStart => exact ⟨l.length, l.length, Nat.le_refl _, rfl, rfl, fun i d hi hd => by rw [List.getElem?_eq_none hi] at hd; cases hd⟩
 obtain ⟨z, p, hp, hzp, rfl, HA⟩ := hrel
 cases p with
 | zero =>
  obtain rfl : z = 0 := by omega
  clear hzp
  have hz0 : ¬ ((0 : Int) < 0) := by omega
  have HP : Hid (putN l n = l.take 0 ++ n :: l.drop 0) := HNEW.out 0 hp HA.out (fun j x h => by omega)
  cases A with
  | none =>
   have hl0 : l.length = 0 := by
    rcases Nat.eq_zero_or_pos l.length with h | h
    ·exact h
    obtain ⟨_, _, e, _⟩ := hv.all h; cases e
   clear hv
   have hwe := Nat.le_refl w.heap.size
   go_wp2_with (first
    | (at_builtin; refine wpList_append_q _ rfl (.tmp 34) (.tmp 37) _ rfl w.heap.size 3 i0 (.int .i64 0) 1 8 Tryz.underlying71 ei ez ez1 ez2 rfl (by decide) (.slice none 0 0) 0 [] rfl (Own.nil _ _ _ _) _ (0) _ ((l.take (0)).map (Value.int .i64)) rfl (by rw [List.length_map, List.length_take]; omega) (fun h => absurd h (by omega)) (one_ints _) (by unfold maxLen; omega) (by omega) (by omega) ?_
       intro v7 w7 hown7 hg7 hat7
       have hs7 := hg7.size
       have hb7 : Below w.heap.size w w7 := (Below.refl _ _).grown hg7 (by omega) (fun k e => by cases e)
       have hB7 : ∀ k, v7.ownBlock = some k -> k = w.heap.size := fun k e => by
         rcases hat7 with h | h
         · rw [h] at e; cases e
         · rw [h] at e; injection e with e; omega)
    | (at_builtin; refine wpList_append_q _ rfl (.tmp 39) (.tmp 41) _ rfl w.heap.size 3 i0 (.int .i64 0) 1 8 Tryz.underlying71 ei ez ez1 ez2 rfl (by decide) v7 (0 + (0)) ([] ++ (l.take (0)).map (Value.int .i64)) rfl (hown7.alloc _) _ 1 1 [.int .i64 n] rfl rfl (fun _ => ⟨_, rfl, fun j u hj => by rw [addr_add, Nat.zero_add, World.cell?_alloc_at _ _ _ _ rfl]; simpa using hj⟩) (fun u hu => by simp at hu; subst hu; rfl) (by unfold maxLen; omega) (by omega) (by simp; omega) ?_
       intro v8 w8 hown8 hg8 hat8
       have hs8 := hg8.size
       have hb8 : Below w.heap.size w w8 := (hb7.alloc hb7.size _).grown hg8 (by simp at hs8 ⊢; omega) (fun k e => by rw [hB7 k e]; exact Nat.le_refl _)
       have hsw8 := hb8.size
       have hv8 := HV.out.below hb8)
    | (at_builtin; refine wpList_append_q _ rfl (.tmp 43) (.tmp 46) _ rfl w.heap.size 3 i0 (.int .i64 0) 1 8 Tryz.underlying71 ei ez ez1 ez2 rfl (by decide) v8 (0 + (0) + 1) ([] ++ (l.take (0)).map (Value.int .i64) ++ [.int .i64 n]) rfl hown8 _ _ _ ((l.drop (0)).map (Value.int .i64)) rfl (by rw [List.length_map, List.length_drop]; omega) (fun h => absurd h (by omega)) (one_ints _) (by unfold maxLen; omega) (by omega) (by omega) ?_
       intro v9 w9 hown9 hg9 hat9))
   all_goals
    have hb9 : Below w.heap.size w w9 := hb8.grown hg9 (by have := hg9.size; omega) (fun k e => by
     rcases hat8 with h | h
     ·rw [h] at e; rw [hB7 k e]; exact Nat.le_refl _
     rw [h] at e; injection e with e; simp at e; omega)
    have hl9 : (l.take (0) ++ n :: l.drop (0)).length = l.length + 1 := by simp <;> omega
    have ho9 : Own w9 w.heap.size 3 1 v9 (l.take (0) ++ n :: l.drop (0)).length ((l.take (0) ++ n :: l.drop (0)).map (Value.int .i64)) := hown9.cast (by rw [hl9]; omega) (by simp)
    have hs9 : SlS intL wB w9 v9 (putN l n) := by rw [HP.out]; exact Own.slS (L := intL) ho9 (by decide) (fun w' _ => ints_row _ (by rw [<- HP.out]; exact HI.out))
    obtain ⟨A9, c9, hv9, _, _⟩ := ho9.form
    subst hv9
    go_ret
    exact ⟨_, rfl, hs9, hb9⟩
  | some a =>
   by_cases hl0 : l.length = 0
   ·clear hv
    have hwe := Nat.le_refl w.heap.size
    go_wp2_with (first
     | (at_builtin; refine wpList_append_q _ rfl (.tmp 34) (.tmp 37) _ rfl w.heap.size 3 i0 (.int .i64 0) 1 8 Tryz.underlying71 ei ez ez1 ez2 rfl (by decide) (.slice none 0 0) 0 [] rfl (Own.nil _ _ _ _) _ (0) _ ((l.take (0)).map (Value.int .i64)) rfl (by rw [List.length_map, List.length_take]; omega) (fun h => absurd h (by omega)) (one_ints _) (by unfold maxLen; omega) (by omega) (by omega) ?_
        intro v7 w7 hown7 hg7 hat7
        have hs7 := hg7.size
        have hb7 : Below w.heap.size w w7 := (Below.refl _ _).grown hg7 (by omega) (fun k e => by cases e)
        have hB7 : ∀ k, v7.ownBlock = some k -> k = w.heap.size := fun k e => by
          rcases hat7 with h | h
          · rw [h] at e; cases e
          · rw [h] at e; injection e with e; omega)
     | (at_builtin; refine wpList_append_q _ rfl (.tmp 39) (.tmp 41) _ rfl w.heap.size 3 i0 (.int .i64 0) 1 8 Tryz.underlying71 ei ez ez1 ez2 rfl (by decide) v7 (0 + (0)) ([] ++ (l.take (0)).map (Value.int .i64)) rfl (hown7.alloc _) _ 1 1 [.int .i64 n] rfl rfl (fun _ => ⟨_, rfl, fun j u hj => by rw [addr_add, Nat.zero_add, World.cell?_alloc_at _ _ _ _ rfl]; simpa using hj⟩) (fun u hu => by simp at hu; subst hu; rfl) (by unfold maxLen; omega) (by omega) (by simp; omega) ?_
        intro v8 w8 hown8 hg8 hat8
        have hs8 := hg8.size
        have hb8 : Below w.heap.size w w8 := (hb7.alloc hb7.size _).grown hg8 (by simp at hs8 ⊢; omega) (fun k e => by rw [hB7 k e]; exact Nat.le_refl _)
        have hsw8 := hb8.size
        have hv8 := HV.out.below hb8)
     | (at_builtin; refine wpList_append_q _ rfl (.tmp 43) (.tmp 46) _ rfl w.heap.size 3 i0 (.int .i64 0) 1 8 Tryz.underlying71 ei ez ez1 ez2 rfl (by decide) v8 (0 + (0) + 1) ([] ++ (l.take (0)).map (Value.int .i64) ++ [.int .i64 n]) rfl hown8 _ _ _ ((l.drop (0)).map (Value.int .i64)) rfl (by rw [List.length_map, List.length_drop]; omega) (fun h => absurd h (by omega)) (one_ints _) (by unfold maxLen; omega) (by omega) (by omega) ?_
        intro v9 w9 hown9 hg9 hat9))
    all_goals
     have hb9 : Below w.heap.size w w9 := hb8.grown hg9 (by have := hg9.size; omega) (fun k e => by
      rcases hat8 with h | h
      ·rw [h] at e; rw [hB7 k e]; exact Nat.le_refl _
      rw [h] at e; injection e with e; simp at e; omega)
     have hl9 : (l.take (0) ++ n :: l.drop (0)).length = l.length + 1 := by simp <;> omega
     have ho9 : Own w9 w.heap.size 3 1 v9 (l.take (0) ++ n :: l.drop (0)).length ((l.take (0) ++ n :: l.drop (0)).map (Value.int .i64)) := hown9.cast (by rw [hl9]; omega) (by simp)
     have hs9 : SlS intL wB w9 v9 (putN l n) := by rw [HP.out]; exact Own.slS (L := intL) ho9 (by decide) (fun w' _ => ints_row _ (by rw [<- HP.out]; exact HI.out))
     obtain ⟨A9, c9, hv9, _, _⟩ := ho9.form
     subst hv9
     go_ret
     exact ⟨_, rfl, hs9, hb9⟩
   ·obtain ⟨bo, oo, hA, _⟩ := hv.all (by omega)
    injection hA with hA
    subst hA
    clear hv
    have hwe := Nat.le_refl w.heap.size
    go_wp2_with (first
     | (at_builtin; refine wpList_append_q _ rfl (.tmp 34) (.tmp 37) _ rfl w.heap.size 3 i0 (.int .i64 0) 1 8 Tryz.underlying71 ei ez ez1 ez2 rfl (by decide) (.slice none 0 0) 0 [] rfl (Own.nil _ _ _ _) _ (0) _ ((l.take (0)).map (Value.int .i64)) rfl (by rw [List.length_map, List.length_take]; omega) (fun h => absurd h (by omega)) (one_ints _) (by unfold maxLen; omega) (by omega) (by omega) ?_
        intro v7 w7 hown7 hg7 hat7
        have hs7 := hg7.size
        have hb7 : Below w.heap.size w w7 := (Below.refl _ _).grown hg7 (by omega) (fun k e => by cases e)
        have hB7 : ∀ k, v7.ownBlock = some k -> k = w.heap.size := fun k e => by
          rcases hat7 with h | h
          · rw [h] at e; cases e
          · rw [h] at e; injection e with e; omega)
     | (at_builtin; refine wpList_append_q _ rfl (.tmp 39) (.tmp 41) _ rfl w.heap.size 3 i0 (.int .i64 0) 1 8 Tryz.underlying71 ei ez ez1 ez2 rfl (by decide) v7 (0 + (0)) ([] ++ (l.take (0)).map (Value.int .i64)) rfl (hown7.alloc _) _ 1 1 [.int .i64 n] rfl rfl (fun _ => ⟨_, rfl, fun j u hj => by rw [addr_add, Nat.zero_add, World.cell?_alloc_at _ _ _ _ rfl]; simpa using hj⟩) (fun u hu => by simp at hu; subst hu; rfl) (by unfold maxLen; omega) (by omega) (by simp; omega) ?_
        intro v8 w8 hown8 hg8 hat8
        have hs8 := hg8.size
        have hb8 : Below w.heap.size w w8 := (hb7.alloc hb7.size _).grown hg8 (by simp at hs8 ⊢; omega) (fun k e => by rw [hB7 k e]; exact Nat.le_refl _)
        have hsw8 := hb8.size
        have hv8 := HV.out.below hb8)
     | (at_builtin; refine wpList_append_q _ rfl (.tmp 43) (.tmp 46) _ rfl w.heap.size 3 i0 (.int .i64 0) 1 8 Tryz.underlying71 ei ez ez1 ez2 rfl (by decide) v8 (0 + (0) + 1) ([] ++ (l.take (0)).map (Value.int .i64) ++ [.int .i64 n]) rfl hown8 _ _ _ ((l.drop (0)).map (Value.int .i64)) rfl (by rw [List.length_map, List.length_drop]; omega) (fun h => ⟨⟨bo, oo + 0, none⟩, by simp, ints_drop hv8⟩) (one_ints _) (by unfold maxLen; omega) (by omega) (by omega) ?_
        intro v9 w9 hown9 hg9 hat9))
    all_goals
     have hb9 : Below w.heap.size w w9 := hb8.grown hg9 (by have := hg9.size; omega) (fun k e => by
      rcases hat8 with h | h
      ·rw [h] at e; rw [hB7 k e]; exact Nat.le_refl _
      rw [h] at e; injection e with e; simp at e; omega)
     have hl9 : (l.take (0) ++ n :: l.drop (0)).length = l.length + 1 := by simp <;> omega
     have ho9 : Own w9 w.heap.size 3 1 v9 (l.take (0) ++ n :: l.drop (0)).length ((l.take (0) ++ n :: l.drop (0)).map (Value.int .i64)) := hown9.cast (by rw [hl9]; omega) (by simp)
     have hs9 : SlS intL wB w9 v9 (putN l n) := by rw [HP.out]; exact Own.slS (L := intL) ho9 (by decide) (fun w' _ => ints_row _ (by rw [<- HP.out]; exact HI.out))
     obtain ⟨A9, c9, hv9, _, _⟩ := ho9.form
     subst hv9
     go_ret
     exact ⟨_, rfl, hs9, hb9⟩
 | succ p =>
  obtain rfl : z = (p : Int) + 1 := by omega
  clear hzp
  obtain ⟨q, hq⟩ : ∃ d, l[p]? = some d := ⟨_, List.getElem?_eq_getElem (by omega)⟩
  obtain ⟨bo, oo, hAo, _, r0⟩ := int_at hv hq
  subst hAo
  have hpl : (p : Int) < (l.length : Int) := by omega
  have hp0 : (0 : Int) < (p : Int) + 1 := by omega
  have hpw : IntKind.i64.wrap ((p : Int) + 1 - 1) = (p : Int) := by rw [IntWalk.i64_in _ (by omega)]; omega
  by_cases hc : n < q
  ·have HN : Hid (∀ i d, p <= i -> l[i]? = some d -> n < d) := fun i d hi hd => by
    by_cases hip : i = p
    ·subst hip; rw [hq] at hd; injection hd with hd; subst hd; exact hc
    exact HA.out i d (by omega) hd
   clear hq
   go_wp2_with fail
   go_round
   case rel => exact ⟨p, p, by omega, rfl, by go_num, HN⟩
   case measure => simp [intOf]
  by_cases hqn : q = n
  ·have HP := Lib.hid (HHAS.out p (by rw [<- hqn]; exact hq))
   have hqb : (q == n) = true := by rw [beq_iff_eq]; exact hqn
   have hc' : ¬ (n < q) := hc
   clear hq hv
   go_wp2_with fail
   go_ret
   exact ⟨_, rfl, by rw [HP.out]; exact HVS.out, Below.refl _ _⟩
  have hc' : q < n := by omega
  have hqb : (q == n) = false := by rw [beq_eq_false_iff_ne]; exact hqn
  have HP : Hid (putN l n = l.take (p + 1) ++ n :: l.drop (p + 1)) := HNEW.out (p + 1) hp HA.out (fun j x h hx => by
   have : j = p := by omega
   subst this; rw [hq] at hx; injection hx with hx; omega)
  have hpo : (p : Int) + 1 <= (c : Int) := by omega
  have hpl' : (p : Int) + 1 <= (l.length : Int) := by omega
  clear hq hv
  have hwe := Nat.le_refl w.heap.size
  go_wp2_with (first
   | (at_builtin; refine wpList_append_q _ rfl (.tmp 34) (.tmp 37) _ rfl w.heap.size 3 i0 (.int .i64 0) 1 8 Tryz.underlying71 ei ez ez1 ez2 rfl (by decide) (.slice none 0 0) 0 [] rfl (Own.nil _ _ _ _) _ (p + 1) _ ((l.take (p + 1)).map (Value.int .i64)) rfl (by rw [List.length_map, List.length_take]; omega) (fun _ => ⟨_, rfl, ints_take HV.out⟩) (one_ints _) (by unfold maxLen; omega) (by omega) (by omega) ?_
      intro v7 w7 hown7 hg7 hat7
      have hs7 := hg7.size
      have hb7 : Below w.heap.size w w7 := (Below.refl _ _).grown hg7 (by omega) (fun k e => by cases e)
      have hB7 : ∀ k, v7.ownBlock = some k -> k = w.heap.size := fun k e => by
        rcases hat7 with h | h
        · rw [h] at e; cases e
        · rw [h] at e; injection e with e; omega)
   | (at_builtin; refine wpList_append_q _ rfl (.tmp 39) (.tmp 41) _ rfl w.heap.size 3 i0 (.int .i64 0) 1 8 Tryz.underlying71 ei ez ez1 ez2 rfl (by decide) v7 (0 + (p + 1)) ([] ++ (l.take (p + 1)).map (Value.int .i64)) rfl (hown7.alloc _) _ 1 1 [.int .i64 n] rfl rfl (fun _ => ⟨_, rfl, fun j u hj => by rw [addr_add, Nat.zero_add, World.cell?_alloc_at _ _ _ _ rfl]; simpa using hj⟩) (fun u hu => by simp at hu; subst hu; rfl) (by unfold maxLen; omega) (by omega) (by simp; omega) ?_
      intro v8 w8 hown8 hg8 hat8
      have hs8 := hg8.size
      have hb8 : Below w.heap.size w w8 := (hb7.alloc hb7.size _).grown hg8 (by simp at hs8 ⊢; omega) (fun k e => by rw [hB7 k e]; exact Nat.le_refl _)
      have hsw8 := hb8.size
      have hv8 := HV.out.below hb8)
   | (at_builtin; refine wpList_append_q _ rfl (.tmp 43) (.tmp 46) _ rfl w.heap.size 3 i0 (.int .i64 0) 1 8 Tryz.underlying71 ei ez ez1 ez2 rfl (by decide) v8 (0 + (p + 1) + 1) ([] ++ (l.take (p + 1)).map (Value.int .i64) ++ [.int .i64 n]) rfl hown8 _ _ _ ((l.drop (p + 1)).map (Value.int .i64)) rfl (by rw [List.length_map, List.length_drop]; omega) (fun h => ⟨⟨bo, oo + (p + 1), none⟩, by have hne : ¬ c = p + 1 := (by omega); simp [hne], ints_drop hv8⟩) (one_ints _) (by unfold maxLen; omega) (by omega) (by omega) ?_
      intro v9 w9 hown9 hg9 hat9))
  all_goals
   have hb9 : Below w.heap.size w w9 := hb8.grown hg9 (by have := hg9.size; omega) (fun k e => by
    rcases hat8 with h | h
    ·rw [h] at e; rw [hB7 k e]; exact Nat.le_refl _
    rw [h] at e; injection e with e; simp at e; omega)
   have hl9 : (l.take (p + 1) ++ n :: l.drop (p + 1)).length = l.length + 1 := by simp <;> omega
   have ho9 : Own w9 w.heap.size 3 1 v9 (l.take (p + 1) ++ n :: l.drop (p + 1)).length ((l.take (p + 1) ++ n :: l.drop (p + 1)).map (Value.int .i64)) := hown9.cast (by rw [hl9]; omega) (by simp)
   have hs9 : SlS intL wB w9 v9 (putN l n) := by rw [HP.out]; exact Own.slS (L := intL) ho9 (by decide) (fun w' _ => ints_row _ (by rw [<- HP.out]; exact HI.out))
   obtain ⟨A9, c9, hv9, _, _⟩ := ho9.form
   subst hv9
   go_ret
   exact ⟨_, rfl, hs9, hb9⟩
end Go.Proofs.YtngbbefpphinjaaGreatDoor
