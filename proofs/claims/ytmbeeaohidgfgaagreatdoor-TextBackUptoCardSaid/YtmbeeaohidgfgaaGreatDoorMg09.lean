/- Parts: GrA. -/
import Derived.Test.YtmbeeaohidgfgaaGreatDoorMg08
import Derived.Test.YtmbeeaohidgfgaaGreatDoorMg06
import Derived.Lib.Bytealg
import Derived.StillTailTactics
import Derived.Sort.Walk0
/- Contracts: what cmp.Compare, cmp.Or, strings.Compare, graph.Id, graph.OfNode, graph.OfTie and graph.Order answer. -/
namespace Go.Proofs.YtmbeeaohidgfgaaGreatDoor
open Go.RowKit

set_option maxHeartbeats 400000 in
theorem id_any (n : Int) (w : World) :
    Calls Tryz.prog 74 #[.int .i64 n] w fun e w' => e = .returned (.bool (decide (1 ≤ n) && decide (n ≤ 1000))) ∧ w = w' := by
  by_cases h1 : 1 ≤ n
  · go_enter Tryz.func74, Tryz.ntmps74
    go_wp2
    go_ret
    exact ⟨by simp [h1], rfl⟩
  · have h1' : decide (1 ≤ n) = false := by simpa using h1
    go_enter Tryz.func74, Tryz.ntmps74
    go_wp2
    go_ret
    exact ⟨by simp, rfl⟩
def idB (n : Int) : Bool := decide (1 ≤ n) && decide (n ≤ 1000)
theorem id_b (n : Int) (w : World) : Calls Tryz.prog 74 #[.int .i64 n] w fun e w' => e = .returned (.bool (idB n)) ∧ w = w' := id_any n w

theorem nan_any (n : Int) (w : World) :
    Calls Tryz.prog 135 #[.int .i64 n] w fun e w' => e = .returned (.bool false) ∧ w = w' := by
  go_enter Tryz.func135, Tryz.ntmps135
  go_wp2
  go_ret
  exact ⟨by simp, rfl⟩
def cmpI (a b : Int) : Int := if a < b then -1 else if b < a then 1 else 0
theorem cmp_any (a b : Int) (w : World) :
    Calls Tryz.prog 107 #[.int .i64 a, .int .i64 b] w fun e w' => e = .returned (.int .i64 (cmpI a b)) ∧ w = w' := by
  by_cases h1 : a < b
  · have HE : Hid (cmpI a b = -1) := by unfold cmpI; rw [if_pos h1]; rfl
    go_enter Tryz.func107, Tryz.ntmps107
    go_wp2_with (go_at_call 135; refine (nan_any _ _).mono ?_; rintro e w' ⟨rfl, rfl⟩)
    go_ret
    exact ⟨by rw [HE.out]; rfl, rfl⟩
  · by_cases h2 : b < a
    · have HE : Hid (cmpI a b = 1) := by unfold cmpI; rw [if_neg h1, if_pos h2]; rfl
      have h1' : b ≤ a := by omega
      go_enter Tryz.func107, Tryz.ntmps107
      go_wp2_with (go_at_call 135; refine (nan_any _ _).mono ?_; rintro e w' ⟨rfl, rfl⟩)
      go_ret
      exact ⟨by rw [HE.out]; rfl, rfl⟩
    · have HE : Hid (cmpI a b = 0) := by unfold cmpI; rw [if_neg h1, if_neg h2]; rfl
      have h1' : b ≤ a := by omega
      have h2' : a ≤ b := by omega
      go_enter Tryz.func107, Tryz.ntmps107
      go_wp2_with (go_at_call 135; refine (nan_any _ _).mono ?_; rintro e w' ⟨rfl, rfl⟩)
      go_ret
      exact ⟨by rw [HE.out]; rfl, rfl⟩

/-- Texts by bytes: -1, 0, 1. -/
def cmpS (a b : ByteArray) : Int := Lib.compareBytes a.data.toList b.data.toList
set_option maxHeartbeats 1000000 in
set_option maxRecDepth 100000 in
theorem cmpString_any (a b : ByteArray) (w : World) :
    Calls Tryz.prog 81 #[.string a, .string b] w fun e w' => e = .returned (.int .i64 (cmpS a b)) ∧ w = w' := by
  go_enter Tryz.func81, Tryz.ntmps81
  go_wp2_with fail
  rw [run_callFunc_extern Tryz.func109 (by kernel_rfl) (by kernel_rfl) (by kernel_rfl) (e := Extern.BytealgCompare.compare) (by kernel_rfl), Lib.run_compareString]
  simp only [Result.andThen]
  rw [Oper.upon_value]
  go_wp2_with fail
  go_ret
  exact ⟨rfl, rfl⟩
theorem scmp_any (a b : ByteArray) (w : World) :
    Calls Tryz.prog 50 #[.string a, .string b] w fun e w' => e = .returned (.int .i64 (cmpS a b)) ∧ w = w' := by
  go_enter Tryz.func50, Tryz.ntmps50
  go_wp2_with (go_at_call 81; refine (cmpString_any _ _ _).mono ?_; rintro e w' ⟨rfl, rfl⟩)
  go_ret
  exact ⟨rfl, rfl⟩

theorem cmpI_i64 (a b : Int) : I64 (cmpI a b) := by unfold cmpI I64; split <;> (try split) <;> omega
theorem compareBytes_small : ∀ (a b : List UInt8), Lib.compareBytes a b = -1 ∨ Lib.compareBytes a b = 0 ∨ Lib.compareBytes a b = 1
  | [], [] => by simp [Lib.compareBytes]
  | [], _ :: _ => by simp [Lib.compareBytes]
  | _ :: _, [] => by simp [Lib.compareBytes]
  | a :: x, b :: y => by
    unfold Lib.compareBytes
    split
    · simp
    · split
      · simp
      · exact compareBytes_small x y
theorem cmpS_i64 (a b : ByteArray) : I64 (cmpS a b) := by
  unfold cmpS I64
  rcases compareBytes_small a.data.toList b.data.toList with h | h | h <;> rw [h] <;> omega

theorem heap_at_new (W : World) (o : Obj) (b : Nat) (hb : b = W.heap.size) : (W.alloc o).heap[b]? = some o := by subst hb; exact heap_alloc_new _ _

/-- The first that is not 0; else 0. -/
def orI : List Int → Int
  | [] => 0
  | a :: r => if a = 0 then orI r else a
theorem orI_eq (l : List Int) : orI l = firstE id l := by
  induction l with
  | nil => rfl
  | cons a r ih => simp [orI, firstE, ih]
set_option maxHeartbeats 400000 in
theorem or_any (l : List Int) (v : Value) (w : World) (hv : Sl intL w v l) :
    Calls Tryz.prog 106 #[v] w fun e w' => e = .returned (.int .i64 (orI l)) ∧ w = w' := by
  rw [orI_eq]
  obtain ⟨A, c, rfl, hlc, hcm⟩ := hv.form
  unfold maxLen at hcm
  go_enter Tryz.func106, Tryz.ntmps106
  go_wp2_with fail
  go_loop [8] (fun i => ∃ k : Nat, k ≤ l.length ∧ i = .int .i64 k ∧ Hid (∀ j x, j < k → l[j]? = some x → id x = 0)) (fun i => l.length - (intOf i).toNat)
  case atStart => exact ⟨0, Nat.zero_le _, rfl, fun j x hj => absurd hj (Nat.not_lt_zero _)⟩
  case round =>
    obtain ⟨k, hk, rfl, HA⟩ := hrel
    by_cases hlt : k < l.length
    · obtain ⟨d, hd⟩ : ∃ d, l[k]? = some d := ⟨_, List.getElem?_eq_getElem hlt⟩
      obtain ⟨b, o, rfl, _, hcell⟩ := int_at hv hd
      have HD : Hid (l[k]? = some d) := hd
      clear hd hv
      by_cases hz : d = 0
      · subst hz
        go_wp2_with fail
        go_round
        case rel => exact ⟨k + 1, by omega, by go_num, zero_step HA.out HD.out rfl⟩
        case measure => simp [intOf]; omega
      · have hzb : (d != 0) = true := by simpa using hz
        have HE : Hid (firstE id l = d) := firstE_hit HA.out HD.out hz
        clear hz
        go_wp2_with fail
        go_ret
        exact ⟨by rw [HE.out]; rfl, rfl⟩
    · have hkl : k = l.length := by omega
      subst hkl
      have HE : Hid (firstE id l = 0) := firstE_none HA.out
      clear hv
      go_wp2_with fail
      go_ret
      exact ⟨by rw [HE.out]; rfl, rfl⟩

/-! ### graph.OfNode, graph.OfTie, graph.Order -/
def nodE (n : Nod) : Int := if idB n.id = false then 1 else if nameE n.kind = 0 then recE n.props else nameE n.kind
def tieE (t : Tie) : Int := if nameE t.bond = 0 then (if (idB t.src && idB t.dst) then 0 else 1) else nameE t.bond
def tieO (a b : Tie) : Int := orI [cmpS a.bond b.bond, cmpI a.src b.src, cmpI a.dst b.dst]

set_option maxHeartbeats 400000 in
theorem ofNode_any (n : Nod) (v : Value) (w : World) (hi : Sm n.kind) (hv : Sl prpL w v n.props) :
    Calls Tryz.prog 75 #[.agg #[.int .i64 n.id, .string n.kind, v]] w fun e w' => e = .returned (errV (nodE n)) ∧ Below w.heap.size w w' := by
  obtain ⟨A, c, rfl, _, _⟩ := hv.form
  have HF : Hid (nodE n = if idB n.id = false then 1 else if nameE n.kind = 0 then recE n.props else nameE n.kind) := rfl
  obtain ⟨id, kind, props⟩ := n
  have hi' : Sm kind := hi
  have hb0 : Below w.heap.size w (w.alloc (.cells #[.int .i64 id, .string kind, .slice A props.length c] 66)) := (Below.refl _ _).alloc (Nat.le_refl _) _
  cases h1 : idB id with
  | false =>
    have HE : Hid (errV (nodE ⟨id, kind, props⟩) = .iface 74 (.int .i64 1)) := by rw [HF.out]; simp only [h1, if_true]; rfl
    go_enter Tryz.func75, Tryz.ntmps75
    go_wp2_with (go_at_call 74; refine (id_b _ _).mono ?_; rintro e w' ⟨rfl, rfl⟩)
    go_ret
    exact ⟨by rw [HE.out]; rfl, hb0⟩
  | true =>
    by_cases h2 : nameE kind = 0
    · have HE : Hid (errV (nodE ⟨id, kind, props⟩) = errV (recE props)) := by unfold Hid; rw [HF.out]; simp only [h1, h2, if_true, Bool.true_eq_false, if_false]
      have hE : errV (nameE kind) = .nilIface := errV_zero h2
      clear h2
      go_enter Tryz.func75, Tryz.ntmps75
      go_wp2_with (go_at_call 74; refine (id_b _ _).mono ?_; rintro e w' ⟨rfl, rfl⟩)
      refine (name_any kind _ hi').mono ?_
      rintro e w1 ⟨rfl, hb1⟩
      obtain ⟨hc, hf⟩ := bcell hb1
      have hb2 : Below w.heap.size w w1 := hb0.trans (hb1.mono hb0.size)
      rw [hE]
      go_wp2_with fail
      refine (recCheck_any props _ _ (hv.below hb2)).mono ?_
      rintro e w2 ⟨rfl, hb3⟩
      go_wp2_with fail
      go_ret
      exact ⟨by rw [HE.out]; rfl, hb2.trans (hb3.mono hb2.size)⟩
    · have HE : Hid (errV (nodE ⟨id, kind, props⟩) = .iface 74 (.int .i64 (nameE kind))) := by unfold Hid; rw [HF.out]; simp only [h1, h2, Bool.true_eq_false, if_false]; exact errV_some h2
      have hE : errV (nameE kind) = .iface 74 (.int .i64 (nameE kind)) := errV_some h2
      clear h2
      go_enter Tryz.func75, Tryz.ntmps75
      go_wp2_with (go_at_call 74; refine (id_b _ _).mono ?_; rintro e w' ⟨rfl, rfl⟩)
      refine (name_any kind _ hi').mono ?_
      rintro e w1 ⟨rfl, hb1⟩
      have hb2 : Below w.heap.size w w1 := hb0.trans (hb1.mono hb0.size)
      rw [hE]
      go_wp2_with fail
      go_ret
      exact ⟨by rw [HE.out]; rfl, hb2⟩

set_option maxHeartbeats 400000 in
theorem ofTie_any (t : Tie) (w : World) (hs : Sm t.bond) :
    Calls Tryz.prog 76 #[.agg #[.string t.bond, .int .i64 t.src, .int .i64 t.dst]] w fun e w' => e = .returned (errV (tieE t)) ∧ Below w.heap.size w w' := by
  have HF : Hid (tieE t = if nameE t.bond = 0 then (if (idB t.src && idB t.dst) then 0 else 1) else nameE t.bond) := rfl
  obtain ⟨bond, src, dst⟩ := t
  have hs : Sm bond := hs
  have hb0 : Below w.heap.size w (w.alloc (.cells #[.string bond, .int .i64 src, .int .i64 dst] 109)) := (Below.refl _ _).alloc (Nat.le_refl _) _
  by_cases h1 : nameE bond = 0
  · have hE : errV (nameE bond) = .nilIface := errV_zero h1
    have HG : Hid (tieE ⟨bond, src, dst⟩ = if (idB src && idB dst) then 0 else 1) := by unfold Hid; rw [HF.out]; simp only [h1, if_true]
    clear h1
    cases h2 : idB src with
    | false =>
      have HE : Hid (errV (tieE ⟨bond, src, dst⟩) = .iface 74 (.int .i64 1)) := by rw [HG.out, h2]; rfl
      go_enter Tryz.func76, Tryz.ntmps76
      go_wp2_with fail
      refine (name_any bond _ hs).mono ?_
      rintro e w1 ⟨rfl, hb1⟩
      obtain ⟨hc, hf⟩ := bcell hb1
      have hb2 : Below w.heap.size w w1 := hb0.trans (hb1.mono hb0.size)
      rw [hE]
      go_wp2_with (go_at_call 74; refine (id_b _ _).mono ?_; rintro e w' ⟨rfl, rfl⟩)
      go_ret
      exact ⟨by rw [HE.out]; rfl, hb2⟩
    | true =>
      cases h3 : idB dst with
      | false =>
        have HE : Hid (errV (tieE ⟨bond, src, dst⟩) = .iface 74 (.int .i64 1)) := by rw [HG.out, h2, h3]; rfl
        go_enter Tryz.func76, Tryz.ntmps76
        go_wp2_with fail
        refine (name_any bond _ hs).mono ?_
        rintro e w1 ⟨rfl, hb1⟩
        obtain ⟨hc, hf⟩ := bcell hb1
        have hb2 : Below w.heap.size w w1 := hb0.trans (hb1.mono hb0.size)
        rw [hE]
        go_wp2_with (go_at_call 74; refine (id_b _ _).mono ?_; rintro e w' ⟨rfl, rfl⟩)
        go_ret
        exact ⟨by rw [HE.out]; rfl, hb2⟩
      | true =>
        have HE : Hid (errV (tieE ⟨bond, src, dst⟩) = .nilIface) := by rw [HG.out, h2, h3]; rfl
        go_enter Tryz.func76, Tryz.ntmps76
        go_wp2_with fail
        refine (name_any bond _ hs).mono ?_
        rintro e w1 ⟨rfl, hb1⟩
        obtain ⟨hc, hf⟩ := bcell hb1
        have hb2 : Below w.heap.size w w1 := hb0.trans (hb1.mono hb0.size)
        rw [hE]
        go_wp2_with (go_at_call 74; refine (id_b _ _).mono ?_; rintro e w' ⟨rfl, rfl⟩)
        go_ret
        exact ⟨by rw [HE.out]; rfl, hb2⟩
  · have HE : Hid (errV (tieE ⟨bond, src, dst⟩) = .iface 74 (.int .i64 (nameE bond))) := by unfold Hid; rw [HF.out]; simp only [h1, if_false]; exact errV_some h1
    have hE : errV (nameE bond) = .iface 74 (.int .i64 (nameE bond)) := errV_some h1
    clear h1
    go_enter Tryz.func76, Tryz.ntmps76
    go_wp2_with fail
    refine (name_any bond _ hs).mono ?_
    rintro e w1 ⟨rfl, hb1⟩
    obtain ⟨hc, hf⟩ := bcell hb1
    have hb2 : Below w.heap.size w w1 := hb0.trans (hb1.mono hb0.size)
    rw [hE]
    go_wp2_with (go_at_call 74; refine (id_b _ _).mono ?_; rintro e w' ⟨rfl, rfl⟩)
    go_ret
    exact ⟨by rw [HE.out]; rfl, hb2⟩

set_option maxHeartbeats 1000000 in
theorem order_any (a b : Tie) (w : World) :
    Calls Tryz.prog 77 #[.agg #[.string a.bond, .int .i64 a.src, .int .i64 a.dst], .agg #[.string b.bond, .int .i64 b.src, .int .i64 b.dst]] w fun e w' => e = .returned (.int .i64 (tieO a b)) ∧ Below w.heap.size w w' := by
  have HF : Hid (tieO a b = orI [cmpS a.bond b.bond, cmpI a.src b.src, cmpI a.dst b.dst]) := rfl
  go_enter Tryz.func77, Tryz.ntmps77
  go_wp2_with fail
  refine wp_quiet_tail 15 (by kernel_rfl) (by kernel_rfl) ?_
  simp only [List.take_succ_cons, List.take_zero, List.drop_succ_cons, List.drop_zero]
  repeat (go_big_quiet_step (first | (go_at_call 50; exact Calls.quiet_of_same ((scmp_any _ _ _).mono fun _ _ h => ⟨h.1, h.2.symm⟩)) | (go_at_call 107; exact Calls.quiet_of_same ((cmp_any _ _ _).mono fun _ _ h => ⟨h.1, h.2.symm⟩))))
  refine wpQuiet_nil ?_
  intro _ hw'
  obtain ⟨nq, hw''⟩ := hw'
  subst hw''
  have hI : ∀ x ∈ [cmpS a.bond b.bond, cmpI a.src b.src, cmpI a.dst b.dst], I64 x := by
    intro x hx
    simp only [List.mem_cons, List.not_mem_nil, or_false] at hx
    rcases hx with rfl | rfl | rfl
    · exact cmpS_i64 _ _
    · exact cmpI_i64 _ _
    · exact cmpI_i64 _ _
  go_wp2_with fail
  refine (or_any [cmpS a.bond b.bond, cmpI a.src b.src, cmpI a.dst b.dst] _ _ ?_).mono ?_
  · exact sl_ints [cmpS a.bond b.bond, cmpI a.src b.src, cmpI a.dst b.dst] hI 3 (by simp) (by unfold maxLen; omega) (heap_at_new _ _ _ (by simp [World.drewN]))
  rintro e w' ⟨rfl, rfl⟩
  go_wp2_with fail
  go_ret
  refine ⟨by rw [HF.out]; rfl, Below.alloc (below_drewN (((Below.refl _ _).alloc (Nat.le_refl _) _).alloc (by simp) _) _) (by simp [World.drewN]; omega) _⟩
end Go.Proofs.YtmbeeaohidgfgaaGreatDoor
