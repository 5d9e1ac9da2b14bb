/- Parts: GrA, GrB. -/
import Derived.Test.YtflidfmpmakggaaGreatDoorMg04
import Derived.Test.YtflidfmpmakggaaGreatDoorMg03
import Derived.Lib.Bytealg
import Derived.StillTailTactics
import Derived.Sort.Walk0
/- Contracts: what cmp.Compare, cmp.Or, strings.Compare, graph.Id, graph.OfNode, graph.OfTie and graph.Order answer. -/
namespace Go.Proofs.YtflidfmpmakggaaGreatDoor
open Go.RowKit

set_option maxHeartbeats 400000 in
theorem id_any (n : Int) (w : World) :
    Calls Tryz.prog 94 #[.int .i64 n] w fun e w' => e = .returned (.bool (decide (1 ≤ n) && decide (n ≤ 1000))) ∧ w = w' := by
  by_cases h1 : 1 ≤ n
  · go_enter Tryz.func94, Tryz.ntmps94
    go_wp2
    go_ret
    exact ⟨by simp [h1], rfl⟩
  · have h1' : decide (1 ≤ n) = false := by simpa using h1
    go_enter Tryz.func94, Tryz.ntmps94
    go_wp2
    go_ret
    exact ⟨by simp, rfl⟩
def idB (n : Int) : Bool := decide (1 ≤ n) && decide (n ≤ 1000)
theorem id_b (n : Int) (w : World) : Calls Tryz.prog 94 #[.int .i64 n] w fun e w' => e = .returned (.bool (idB n)) ∧ w = w' := id_any n w

theorem nan_any (n : Int) (w : World) :
    Calls Tryz.prog 192 #[.int .i64 n] w fun e w' => e = .returned (.bool false) ∧ w = w' := by
  go_enter Tryz.func192, Tryz.ntmps192
  go_wp2
  go_ret
  exact ⟨by simp, rfl⟩
def cmpI (a b : Int) : Int := if a < b then -1 else if b < a then 1 else 0
theorem cmp_any (a b : Int) (w : World) :
    Calls Tryz.prog 147 #[.int .i64 a, .int .i64 b] w fun e w' => e = .returned (.int .i64 (cmpI a b)) ∧ w = w' := by
  by_cases h1 : a < b
  · have HE : Hid (cmpI a b = -1) := by unfold cmpI; rw [if_pos h1]; rfl
    go_enter Tryz.func147, Tryz.ntmps147
    go_wp2_with (go_at_call 192; refine (nan_any _ _).mono ?_; rintro e w' ⟨rfl, rfl⟩)
    go_ret
    exact ⟨by rw [HE.out]; rfl, rfl⟩
  · by_cases h2 : b < a
    · have HE : Hid (cmpI a b = 1) := by unfold cmpI; rw [if_neg h1, if_pos h2]; rfl
      have h1' : b ≤ a := by omega
      go_enter Tryz.func147, Tryz.ntmps147
      go_wp2_with (go_at_call 192; refine (nan_any _ _).mono ?_; rintro e w' ⟨rfl, rfl⟩)
      go_ret
      exact ⟨by rw [HE.out]; rfl, rfl⟩
    · have HE : Hid (cmpI a b = 0) := by unfold cmpI; rw [if_neg h1, if_neg h2]; rfl
      have h1' : b ≤ a := by omega
      have h2' : a ≤ b := by omega
      go_enter Tryz.func147, Tryz.ntmps147
      go_wp2_with (go_at_call 192; refine (nan_any _ _).mono ?_; rintro e w' ⟨rfl, rfl⟩)
      go_ret
      exact ⟨by rw [HE.out]; rfl, rfl⟩

/-- Texts by bytes: -1, 0, 1. -/
def cmpS (a b : ByteArray) : Int := Lib.compareBytes a.data.toList b.data.toList
set_option maxHeartbeats 1000000 in
set_option maxRecDepth 100000 in
theorem cmpString_any (a b : ByteArray) (w : World) :
    Calls Tryz.prog 191 #[.string a, .string b] w fun e w' => e = .returned (.int .i64 (cmpS a b)) ∧ w = w' := by
  go_enter Tryz.func191, Tryz.ntmps191
  go_wp2_with fail
  rw [run_callFunc_extern Tryz.func223 (by kernel_rfl) (by kernel_rfl) (by kernel_rfl) (e := Extern.BytealgCompare.compare) (by kernel_rfl), Lib.run_compareString]
  simp only [Result.andThen]
  rw [Oper.upon_value]
  go_wp2_with fail
  go_ret
  exact ⟨rfl, rfl⟩
theorem scmp_any (a b : ByteArray) (w : World) :
    Calls Tryz.prog 146 #[.string a, .string b] w fun e w' => e = .returned (.int .i64 (cmpS a b)) ∧ w = w' := by
  go_enter Tryz.func146, Tryz.ntmps146
  go_wp2_with (go_at_call 191; refine (cmpString_any _ _ _).mono ?_; rintro e w' ⟨rfl, rfl⟩)
  go_ret
  exact ⟨rfl, rfl⟩

theorem cmpI_i64 (a b : Int) : I64 (cmpI a b) := by unfold cmpI I64; split <;> (try split) <;> omega
theorem compareBytes_small : ∀ (a b : List UInt8), Lib.compareBytes a b = -1 ∨ Lib.compareBytes a b = 0 ∨ Lib.compareBytes a b = 1
  | [], [] => by simp [Lib.compareBytes]
  | [], _ :: _ => by simp [Lib.compareBytes]
  | _ :: _, [] => by simp [Lib.compareBytes]
  | a :: x, b :: y => by
    unfold Lib.compareBytes
    split
    · simp
    · split
      · simp
      · exact compareBytes_small x y
theorem cmpS_i64 (a b : ByteArray) : I64 (cmpS a b) := by
  unfold cmpS I64
  rcases compareBytes_small a.data.toList b.data.toList with h | h | h <;> rw [h] <;> omega

theorem heap_at_new (W : World) (o : Obj) (b : Nat) (hb : b = W.heap.size) : (W.alloc o).heap[b]? = some o := by subst hb; exact heap_alloc_new _ _

/-- The first that is not 0; else 0. -/
def orI : List Int → Int
  | [] => 0
  | a :: r => if a = 0 then orI r else a
theorem orI_eq (l : List Int) : orI l = firstE id l := by
  induction l with
  | nil => rfl
  | cons a r ih => simp [orI, firstE, ih]
set_option maxHeartbeats 400000 in
theorem or_any (l : List Int) (v : Value) (w : World) (hv : Sl intL w v l) :
    Calls Tryz.prog 145 #[v] w fun e w' => e = .returned (.int .i64 (orI l)) ∧ w = w' := by
  rw [orI_eq]
  obtain ⟨A, c, rfl, hlc, hcm⟩ := hv.form
  unfold maxLen at hcm
  go_enter Tryz.func145, Tryz.ntmps145
  go_wp2_with fail
  go_loop [8] (fun i => ∃ k : Nat, k ≤ l.length ∧ i = .int .i64 k ∧ Hid (∀ j x, j < k → l[j]? = some x → id x = 0)) (fun i => l.length - (intOf i).toNat)
  case atStart => exact ⟨0, Nat.zero_le _, rfl, fun j x hj => absurd hj (Nat.not_lt_zero _)⟩
  case round =>
    obtain ⟨k, hk, rfl, HA⟩ := hrel
    by_cases hlt : k < l.length
    · obtain ⟨d, hd⟩ : ∃ d, l[k]? = some d := ⟨_, List.getElem?_eq_getElem hlt⟩
      obtain ⟨b, o, rfl, _, hcell⟩ := int_at hv hd
      have HD : Hid (l[k]? = some d) := hd
      clear hd hv
      by_cases hz : d = 0
      · subst hz
        go_wp2_with fail
        go_round
        case rel => exact ⟨k + 1, by omega, by go_num, zero_step HA.out HD.out rfl⟩
        case measure => simp [intOf]; omega
      · have hzb : (d != 0) = true := by simpa using hz
        have HE : Hid (firstE id l = d) := firstE_hit HA.out HD.out hz
        clear hz
        go_wp2_with fail
        go_ret
        exact ⟨by rw [HE.out]; rfl, rfl⟩
    · have hkl : k = l.length := by omega
      subst hkl
      have HE : Hid (firstE id l = 0) := firstE_none HA.out
      clear hv
      go_wp2_with fail
      go_ret
      exact ⟨by rw [HE.out]; rfl, rfl⟩

/-! ### graph.OfNode, graph.OfTie, graph.Order -/
def nodE (n : Nod) : Int := if idB n.id = false then 1 else if nameE n.kind = 0 then recE n.props else nameE n.kind
def tieE (t : Tie) : Int := if nameE t.bond = 0 then (if (idB t.src && idB t.dst) then 0 else 1) else nameE t.bond
def tieO (a b : Tie) : Int := orI [cmpS a.bond b.bond, cmpI a.src b.src, cmpI a.dst b.dst]

set_option maxHeartbeats 400000 in
theorem ofNode_any (n : Nod) (v : Value) (w : World) (hi : Sm n.kind) (hv : Sl prpL w v n.props) :
    Calls Tryz.prog 95 #[.agg #[.int .i64 n.id, .string n.kind, v]] w fun e w' => e = .returned (errV (nodE n)) ∧ Below w.heap.size w w' := by
  obtain ⟨A, c, rfl, _, _⟩ := hv.form
  have HF : Hid (nodE n = if idB n.id = false then 1 else if nameE n.kind = 0 then recE n.props else nameE n.kind) := rfl
  obtain ⟨id, kind, props⟩ := n
  have hi' : Sm kind := hi
  have hb0 : Below w.heap.size w (w.alloc (.cells #[.int .i64 id, .string kind, .slice A props.length c] 98)) := (Below.refl _ _).alloc (Nat.le_refl _) _
  cases h1 : idB id with
  | false =>
    have HE : Hid (errV (nodE ⟨id, kind, props⟩) = .iface 115 (.int .i64 1)) := by rw [HF.out]; simp only [h1, if_true]; rfl
    go_enter Tryz.func95, Tryz.ntmps95
    go_wp2_with (go_at_call 94; refine (id_b _ _).mono ?_; rintro e w' ⟨rfl, rfl⟩)
    go_ret
    exact ⟨by rw [HE.out]; rfl, hb0⟩
  | true =>
    by_cases h2 : nameE kind = 0
    · have HE : Hid (errV (nodE ⟨id, kind, props⟩) = errV (recE props)) := by unfold Hid; rw [HF.out]; simp only [h1, h2, if_true, Bool.true_eq_false, if_false]
      have hE : errV (nameE kind) = .nilIface := errV_zero h2
      clear h2
      go_enter Tryz.func95, Tryz.ntmps95
      go_wp2_with (go_at_call 94; refine (id_b _ _).mono ?_; rintro e w' ⟨rfl, rfl⟩)
      refine (name_any kind _ hi').mono ?_
      rintro e w1 ⟨rfl, hb1⟩
      obtain ⟨hc, hf⟩ := bcell hb1
      have hb2 : Below w.heap.size w w1 := hb0.trans (hb1.mono hb0.size)
      rw [hE]
      go_wp2_with fail
      refine (recCheck_any props _ _ (hv.below hb2)).mono ?_
      rintro e w2 ⟨rfl, hb3⟩
      go_wp2_with fail
      go_ret
      exact ⟨by rw [HE.out]; rfl, hb2.trans (hb3.mono hb2.size)⟩
    · have HE : Hid (errV (nodE ⟨id, kind, props⟩) = .iface 115 (.int .i64 (nameE kind))) := by unfold Hid; rw [HF.out]; simp only [h1, h2, Bool.true_eq_false, if_false]; exact errV_some h2
      have hE : errV (nameE kind) = .iface 115 (.int .i64 (nameE kind)) := errV_some h2
      clear h2
      go_enter Tryz.func95, Tryz.ntmps95
      go_wp2_with (go_at_call 94; refine (id_b _ _).mono ?_; rintro e w' ⟨rfl, rfl⟩)
      refine (name_any kind _ hi').mono ?_
      rintro e w1 ⟨rfl, hb1⟩
      have hb2 : Below w.heap.size w w1 := hb0.trans (hb1.mono hb0.size)
      rw [hE]
      go_wp2_with fail
      go_ret
      exact ⟨by rw [HE.out]; rfl, hb2⟩

set_option maxHeartbeats 400000 in
theorem ofTie_any (t : Tie) (w : World) (hs : Sm t.bond) :
    Calls Tryz.prog 96 #[.agg #[.string t.bond, .int .i64 t.src, .int .i64 t.dst]] w fun e w' => e = .returned (errV (tieE t)) ∧ Below w.heap.size w w' := by
  have HF : Hid (tieE t = if nameE t.bond = 0 then (if (idB t.src && idB t.dst) then 0 else 1) else nameE t.bond) := rfl
  obtain ⟨bond, src, dst⟩ := t
  have hs : Sm bond := hs
  have hb0 : Below w.heap.size w (w.alloc (.cells #[.string bond, .int .i64 src, .int .i64 dst] 102)) := (Below.refl _ _).alloc (Nat.le_refl _) _
  by_cases h1 : nameE bond = 0
  · have hE : errV (nameE bond) = .nilIface := errV_zero h1
    have HG : Hid (tieE ⟨bond, src, dst⟩ = if (idB src && idB dst) then 0 else 1) := by unfold Hid; rw [HF.out]; simp only [h1, if_true]
    clear h1
    cases h2 : idB src with
    | false =>
      have HE : Hid (errV (tieE ⟨bond, src, dst⟩) = .iface 115 (.int .i64 1)) := by rw [HG.out, h2]; rfl
      go_enter Tryz.func96, Tryz.ntmps96
      go_wp2_with fail
      refine (name_any bond _ hs).mono ?_
      rintro e w1 ⟨rfl, hb1⟩
      obtain ⟨hc, hf⟩ := bcell hb1
      have hb2 : Below w.heap.size w w1 := hb0.trans (hb1.mono hb0.size)
      rw [hE]
      go_wp2_with (go_at_call 94; refine (id_b _ _).mono ?_; rintro e w' ⟨rfl, rfl⟩)
      go_ret
      exact ⟨by rw [HE.out]; rfl, hb2⟩
    | true =>
      cases h3 : idB dst with
      | false =>
        have HE : Hid (errV (tieE ⟨bond, src, dst⟩) = .iface 115 (.int .i64 1)) := by rw [HG.out, h2, h3]; rfl
        go_enter Tryz.func96, Tryz.ntmps96
        go_wp2_with fail
        refine (name_any bond _ hs).mono ?_
        rintro e w1 ⟨rfl, hb1⟩
        obtain ⟨hc, hf⟩ := bcell hb1
        have hb2 : Below w.heap.size w w1 := hb0.trans (hb1.mono hb0.size)
        rw [hE]
        go_wp2_with (go_at_call 94; refine (id_b _ _).mono ?_; rintro e w' ⟨rfl, rfl⟩)
        go_ret
        exact ⟨by rw [HE.out]; rfl, hb2⟩
      | true =>
        have HE : Hid (errV (tieE ⟨bond, src, dst⟩) = .nilIface) := by rw [HG.out, h2, h3]; rfl
        go_enter Tryz.func96, Tryz.ntmps96
        go_wp2_with fail
        refine (name_any bond _ hs).mono ?_
        rintro e w1 ⟨rfl, hb1⟩
        obtain ⟨hc, hf⟩ := bcell hb1
        have hb2 : Below w.heap.size w w1 := hb0.trans (hb1.mono hb0.size)
        rw [hE]
        go_wp2_with (go_at_call 94; refine (id_b _ _).mono ?_; rintro e w' ⟨rfl, rfl⟩)
        go_ret
        exact ⟨by rw [HE.out]; rfl, hb2⟩
  · have HE : Hid (errV (tieE ⟨bond, src, dst⟩) = .iface 115 (.int .i64 (nameE bond))) := by unfold Hid; rw [HF.out]; simp only [h1, if_false]; exact errV_some h1
    have hE : errV (nameE bond) = .iface 115 (.int .i64 (nameE bond)) := errV_some h1
    clear h1
    go_enter Tryz.func96, Tryz.ntmps96
    go_wp2_with fail
    refine (name_any bond _ hs).mono ?_
    rintro e w1 ⟨rfl, hb1⟩
    obtain ⟨hc, hf⟩ := bcell hb1
    have hb2 : Below w.heap.size w w1 := hb0.trans (hb1.mono hb0.size)
    rw [hE]
    go_wp2_with (go_at_call 94; refine (id_b _ _).mono ?_; rintro e w' ⟨rfl, rfl⟩)
    go_ret
    exact ⟨by rw [HE.out]; rfl, hb2⟩

set_option maxHeartbeats 1000000 in
theorem order_any (a b : Tie) (w : World) :
    Calls Tryz.prog 97 #[.agg #[.string a.bond, .int .i64 a.src, .int .i64 a.dst], .agg #[.string b.bond, .int .i64 b.src, .int .i64 b.dst]] w fun e w' => e = .returned (.int .i64 (tieO a b)) ∧ Below w.heap.size w w' := by
  have HF : Hid (tieO a b = orI [cmpS a.bond b.bond, cmpI a.src b.src, cmpI a.dst b.dst]) := rfl
  go_enter Tryz.func97, Tryz.ntmps97
  go_wp2_with fail
  refine wp_quiet_tail 15 (by kernel_rfl) (by kernel_rfl) ?_
  simp only [List.take_succ_cons, List.take_zero, List.drop_succ_cons, List.drop_zero]
  repeat (go_big_quiet_step (first | (go_at_call 146; exact Calls.quiet_of_same ((scmp_any _ _ _).mono fun _ _ h => ⟨h.1, h.2.symm⟩)) | (go_at_call 147; exact Calls.quiet_of_same ((cmp_any _ _ _).mono fun _ _ h => ⟨h.1, h.2.symm⟩))))
  refine wpQuiet_nil ?_
  intro _ hw'
  obtain ⟨nq, hw''⟩ := hw'
  subst hw''
  have hI : ∀ x ∈ [cmpS a.bond b.bond, cmpI a.src b.src, cmpI a.dst b.dst], I64 x := by
    intro x hx
    simp only [List.mem_cons, List.not_mem_nil, or_false] at hx
    rcases hx with rfl | rfl | rfl
    · exact cmpS_i64 _ _
    · exact cmpI_i64 _ _
    · exact cmpI_i64 _ _
  go_wp2_with fail
  refine (or_any [cmpS a.bond b.bond, cmpI a.src b.src, cmpI a.dst b.dst] _ _ ?_).mono ?_
  · exact sl_ints [cmpS a.bond b.bond, cmpI a.src b.src, cmpI a.dst b.dst] hI 3 (by simp) (by unfold maxLen; omega) (heap_at_new _ _ _ (by simp [World.drewN]))
  rintro e w' ⟨rfl, rfl⟩
  go_wp2_with fail
  go_ret
  refine ⟨by rw [HF.out]; rfl, Below.alloc (below_drewN (((Below.refl _ _).alloc (Nat.le_refl _) _).alloc (by simp) _) _) (by simp [World.drewN]; omega) _⟩

/-- The one ahead of place k. -/
def prev {D : Type} (l : List D) : Nat → Option D
  | 0 => none
  | k + 1 => l[k]?
theorem drop_cons {D : Type} {l : List D} {k : Nat} {d : D} (h : l[k]? = some d) : l.drop k = d :: l.drop (k + 1) := by
  obtain ⟨hk, rfl⟩ := List.getElem?_eq_some_iff.1 h
  exact List.drop_eq_getElem_cons hk

def nodsE : Option Nod → List Nod → Int
  | _, [] => 0
  | p, n :: r => if idB n.id = false then 1 else if (match p with | some q => decide (n.id ≤ q.id) | none => false) then 7 else if nodE n = 0 then nodsE (some n) r else nodE n
def tiesE : Option Tie → List Tie → Int
  | _, [] => 0
  | p, t :: r => if tieE t = 0 then (if (match p with | some q => decide (0 ≤ tieO q t) | none => false) then 7 else tiesE (some t) r) else tieE t
/-- The fault of a graph. -/
def grfE (g : Grf) : Int :=
  if 60 < g.nodes.length ∨ 120 < g.ties.length then 4 else if nodsE none g.nodes = 0 then tiesE none g.ties else nodsE none g.nodes

theorem cell_box3 (w : World) (a b c : Value) (t : TypeId) : (w.alloc (.cells #[a, b, c] t)).cell? ⟨w.heap.size, 0, none⟩ = some a ∧ (w.alloc (.cells #[a, b, c] t)).cell? ⟨w.heap.size, 1, none⟩ = some b ∧
    (w.alloc (.cells #[a, b, c] t)).cell? ⟨w.heap.size, 2, none⟩ = some c :=
  ⟨by rw [World.cell?_alloc_at _ _ _ _ rfl]; rfl, by rw [World.cell?_alloc_at _ _ _ _ rfl]; rfl, by rw [World.cell?_alloc_at _ _ _ _ rfl]; rfl⟩
theorem cell_box2 (w : World) (a b : Value) (t : TypeId) : (w.alloc (.cells #[a, b] t)).cell? ⟨w.heap.size, 0, none⟩ = some a ∧ (w.alloc (.cells #[a, b] t)).cell? ⟨w.heap.size, 1, none⟩ = some b :=
  ⟨by rw [World.cell?_alloc_at _ _ _ _ rfl]; rfl, by rw [World.cell?_alloc_at _ _ _ _ rfl]; rfl⟩

set_option maxHeartbeats 4000000 in
theorem grfCheck_any (g : Grf) (vn vt : Value) (w : World) (hg : GrfR w vn vt g) :
    Calls Tryz.prog 46 #[.agg #[vn, vt]] w fun e w' => e = .returned (errV (grfE g)) ∧ Below w.heap.size w w' := by
  obtain ⟨hn, ht⟩ := hg
  obtain ⟨A, c, rfl, hlc, hcm⟩ := hn.form
  obtain ⟨A', c', rfl, hlc', hcm'⟩ := ht.form
  unfold maxLen at hcm hcm'
  have HF : Hid (grfE g = if 60 < g.nodes.length ∨ 120 < g.ties.length then 4 else if nodsE none g.nodes = 0 then tiesE none g.ties else nodsE none g.nodes) := rfl
  obtain ⟨q0, q1⟩ := cell_box2 w (.slice A g.nodes.length c) (.slice A' g.ties.length c') 25
  have hb0 : Below w.heap.size w (w.alloc (.cells #[.slice A g.nodes.length c, .slice A' g.ties.length c'] 25)) := (Below.refl _ _).alloc (Nat.le_refl _) _
  by_cases h1 : 60 < g.nodes.length
  · have HE : Hid (errV (grfE g) = .iface 115 (.int .i64 4)) := by rw [HF.out, if_pos (Or.inl h1)]; rfl
    have h1' : (60 : Int) < (g.nodes.length : Int) := by omega
    clear hn ht
    go_enter Tryz.func46, Tryz.ntmps46
    go_wp2_with fail
    go_ret
    exact ⟨by rw [HE.out]; rfl, hb0⟩
  have h1' : decide ((60 : Int) < (g.nodes.length : Int)) = false := by simp; omega
  have h1'' : (g.nodes.length : Int) ≤ 60 := by omega
  by_cases h2 : 120 < g.ties.length
  · have HE : Hid (errV (grfE g) = .iface 115 (.int .i64 4)) := by rw [HF.out, if_pos (Or.inr h2)]; rfl
    have h2' : (120 : Int) < (g.ties.length : Int) := by omega
    clear hn ht
    go_enter Tryz.func46, Tryz.ntmps46
    go_wp2_with fail
    go_ret
    exact ⟨by rw [HE.out]; rfl, hb0⟩
  have h2' : decide ((120 : Int) < (g.ties.length : Int)) = false := by simp; omega
  have h2'' : (g.ties.length : Int) ≤ 120 := by omega
  have HG : Hid (grfE g = if nodsE none g.nodes = 0 then tiesE none g.ties else nodsE none g.nodes) := by rw [HF.out, if_neg (by omega)]; rfl
  clear HF
  have H1 := Lib.hid h1
  have H2 := Lib.hid h2
  clear h1 h2
  have hw0 : w.heap.size < (w.alloc (.cells #[.slice A g.nodes.length c, .slice A' g.ties.length c'] 25)).heap.size := by simp
  go_enter Tryz.func46, Tryz.ntmps46
  go_wp2_with fail
  generalize hW : w.alloc (.cells #[.slice A g.nodes.length c, .slice A' g.ties.length c'] 25) = W at q0 q1 hb0 hw0
  clear hW
  go_loopw [23] (fun i wr => ∃ k : Nat, k ≤ g.nodes.length ∧ i = .int .i64 k ∧ Below W.heap.size W wr ∧ Hid (nodsE none g.nodes = nodsE (prev g.nodes k) (g.nodes.drop k))) (fun i _ => g.nodes.length - (intOf i).toNat)
  case atStart => exact ⟨0, Nat.zero_le _, rfl, Below.refl _ _, rfl⟩
  case round =>
    obtain ⟨k, hk, rfl, hb, HA⟩ := hrel
    have hbw : Below w.heap.size w wr := hb0.trans (hb.mono hb0.size)
    have r0 : wr.cell? ⟨w.heap.size, 0, none⟩ = some (.slice A g.nodes.length c) := cell_below hb q0
    have r1 : wr.cell? ⟨w.heap.size, 1, none⟩ = some (.slice A' g.ties.length c') := cell_below hb q1
    by_cases hlt : k < g.nodes.length
    · obtain ⟨d, hd⟩ : ∃ d, g.nodes[k]? = some d := ⟨_, List.getElem?_eq_getElem hlt⟩
      obtain ⟨b, o, rfl, hall⟩ := nod_all (hn.below hbw) (by omega)
      obtain ⟨u, hid, hkd, hpr, x0, x1, x2⟩ := hall _ _ hd
      obtain ⟨Ar, cr, rfl, _, _⟩ := hpr.form
      have hwr : w.heap.size < wr.heap.size := by have := hb.size; omega
      have hbl : b < wr.heap.size := World.block_lt_of_cell? _ _ x0
      have HS : Hid (nodsE none g.nodes = nodsE (prev g.nodes k) (d :: g.nodes.drop (k + 1))) := by rw [HA.out, drop_cons hd]; rfl
      have hbx : Below W.heap.size W (wr.alloc (.cells #[.int .i64 d.id, .string d.kind, .slice Ar d.props.length cr] 98)) := hb.alloc hb.size _
      clear HA
      cases h3 : idB d.id with
      | false =>
        have HE : Hid (errV (grfE g) = .iface 115 (.int .i64 1)) := by
          have : nodsE none g.nodes = 1 := by rw [HS.out]; simp only [nodsE, h3, if_true]
          rw [HG.out, if_neg (by rw [this]; decide), this]; rfl
        clear hall hd hn ht
        go_wp2_with (go_at_call 94; refine (id_b _ _).mono ?_; rintro e w' ⟨rfl, rfl⟩)
        go_ret
        exact ⟨by rw [HE.out]; rfl, hb0.trans (hbx.mono hb0.size)⟩
      | true =>
        rcases Nat.eq_zero_or_pos k with hk0 | hk0
        · have hkd0 : decide ((0 : Int) < (k : Int)) = false := by simp; omega
          have hkd1 : (k : Int) ≤ 0 := by omega
          have hkd2 : decide (0 < k) = false := by simp; omega
          have HS' : Hid (nodsE none g.nodes = if nodE d = 0 then nodsE (some d) (g.nodes.drop (k + 1)) else nodE d) := by
            rw [HS.out, hk0]; simp only [nodsE, prev, h3, Bool.true_eq_false, if_false]; rfl
          have HP : Hid (prev g.nodes (k + 1) = some d) := hd
          clear hall hd hk0 HS
          by_cases h4 : nodE d = 0
          · have hE : errV (nodE d) = .nilIface := errV_zero h4
            have HT : Hid (nodsE none g.nodes = nodsE (prev g.nodes (k + 1)) (g.nodes.drop (k + 1))) := by rw [HS'.out, if_pos h4, HP.out]; rfl
            clear h4 HS'
            go_wp2_with (go_at_call 94; refine (id_b _ _).mono ?_; rintro e w' ⟨rfl, rfl⟩)
            go_quiet (fail)
            go_wp2_with fail
            refine (ofNode_any d _ _ hkd ((hpr.below ((Below.refl _ _).alloc (Nat.le_refl _) _)).below (below_drewN (Below.refl _ _) _))).mono ?_
            rintro e w1 ⟨rfl, hb1⟩
            rw [hE]
            have hb2 : Below W.heap.size W w1 := (below_drewN hbx nq).trans (hb1.mono (by have := hb.size; simp [World.drewN]; omega))
            go_wp2_with fail
            go_roundw
            case rel => exact ⟨k + 1, by omega, by go_num, hb2, HT⟩
            case measure => simp [intOf]; omega
          · have hE : errV (nodE d) = .iface 115 (.int .i64 (nodE d)) := errV_some h4
            have HE : Hid (errV (grfE g) = .iface 115 (.int .i64 (nodE d))) := by
              have : nodsE none g.nodes = nodE d := by rw [HS'.out, if_neg h4]
              rw [HG.out, if_neg (by rw [this]; exact h4), this]; exact hE
            clear h4 HS'
            go_wp2_with (go_at_call 94; refine (id_b _ _).mono ?_; rintro e w' ⟨rfl, rfl⟩)
            go_quiet (fail)
            go_wp2_with fail
            refine (ofNode_any d _ _ hkd ((hpr.below ((Below.refl _ _).alloc (Nat.le_refl _) _)).below (below_drewN (Below.refl _ _) _))).mono ?_
            rintro e w1 ⟨rfl, hb1⟩
            rw [hE]
            have hb2 : Below W.heap.size W w1 := (below_drewN hbx nq).trans (hb1.mono (by have := hb.size; simp [World.drewN]; omega))
            go_wp2_with fail
            go_ret
            exact ⟨by rw [HE.out]; rfl, hb0.trans (hb2.mono hb0.size)⟩
        · obtain ⟨p, hp⟩ : ∃ p, g.nodes[k - 1]? = some p := ⟨_, List.getElem?_eq_getElem (by omega)⟩
          obtain ⟨u', hid', _, _, y0, _, _⟩ := hall _ _ hp
          have hkd0 : (0 : Int) < (k : Int) := by omega
          have hkd1 : decide ((0 : Int) < (k : Int)) = true := by simp; omega
          have hkd2 : decide (0 < k) = true := by simp; omega
          have hpv : prev g.nodes k = some p := by
            obtain ⟨m, rfl⟩ : ∃ m, k = m + 1 := ⟨k - 1, by omega⟩
            exact hp
          have HP : Hid (prev g.nodes (k + 1) = some d) := hd
          by_cases h5 : d.id ≤ p.id
          · have h5' : decide (d.id ≤ p.id) = true := by simpa using h5
            have HE : Hid (errV (grfE g) = .iface 115 (.int .i64 7)) := by
              have : nodsE none g.nodes = 7 := by rw [HS.out, hpv]; simp only [nodsE, h3, h5', Bool.true_eq_false, if_false, if_true]
              rw [HG.out, if_neg (by rw [this]; decide), this]; rfl
            clear hall hd hp HS hpv hn ht
            go_wp2_with (go_at_call 94; refine (id_b _ _).mono ?_; rintro e w' ⟨rfl, rfl⟩)
            go_quiet (fail)
            go_wp2_with fail
            go_ret
            exact ⟨by rw [HE.out]; rfl, hb0.trans ((below_drewN hbx _).mono hb0.size)⟩
          · have h5' : decide (d.id ≤ p.id) = false := by simpa using h5
            have h5'' : p.id < d.id := by omega
            have HS' : Hid (nodsE none g.nodes = if nodE d = 0 then nodsE (some d) (g.nodes.drop (k + 1)) else nodE d) := by
              unfold Hid; rw [HS.out, hpv]; simp only [nodsE, h3, h5', Bool.true_eq_false, if_false, Bool.false_eq_true]
            clear hall hd hp HS hpv hn ht h5
            by_cases h4 : nodE d = 0
            · have hE : errV (nodE d) = .nilIface := errV_zero h4
              have HT : Hid (nodsE none g.nodes = nodsE (prev g.nodes (k + 1)) (g.nodes.drop (k + 1))) := by rw [HS'.out, if_pos h4, HP.out]; rfl
              clear h4 HS'
              go_wp2_with (go_at_call 94; refine (id_b _ _).mono ?_; rintro e w' ⟨rfl, rfl⟩)
              go_quiet (fail)
              go_wp2_with fail
              refine (ofNode_any d _ _ hkd ((hpr.below ((Below.refl _ _).alloc (Nat.le_refl _) _)).below (below_drewN (Below.refl _ _) _))).mono ?_
              rintro e w1 ⟨rfl, hb1⟩
              rw [hE]
              have hb2 : Below W.heap.size W w1 := (below_drewN hbx nq).trans (hb1.mono (by have := hb.size; simp [World.drewN]; omega))
              go_wp2_with fail
              go_roundw
              case rel => exact ⟨k + 1, by omega, by go_num, hb2, HT⟩
              case measure => simp [intOf]; omega
            · have hE : errV (nodE d) = .iface 115 (.int .i64 (nodE d)) := errV_some h4
              have HE : Hid (errV (grfE g) = .iface 115 (.int .i64 (nodE d))) := by
                have : nodsE none g.nodes = nodE d := by rw [HS'.out, if_neg h4]
                rw [HG.out, if_neg (by rw [this]; exact h4), this]; exact hE
              clear h4 HS'
              go_wp2_with (go_at_call 94; refine (id_b _ _).mono ?_; rintro e w' ⟨rfl, rfl⟩)
              go_quiet (fail)
              go_wp2_with fail
              refine (ofNode_any d _ _ hkd ((hpr.below ((Below.refl _ _).alloc (Nat.le_refl _) _)).below (below_drewN (Below.refl _ _) _))).mono ?_
              rintro e w1 ⟨rfl, hb1⟩
              rw [hE]
              have hb2 : Below W.heap.size W w1 := (below_drewN hbx nq).trans (hb1.mono (by have := hb.size; simp [World.drewN]; omega))
              go_wp2_with fail
              go_ret
              exact ⟨by rw [HE.out]; rfl, hb0.trans (hb2.mono hb0.size)⟩
    · have hkl : k = g.nodes.length := by omega
      subst hkl
      have HT : Hid (grfE g = tiesE none g.ties) := by
        have : nodsE none g.nodes = 0 := by rw [HA.out, List.drop_length]; rfl
        rw [HG.out, if_pos this]; rfl
      clear HG HA hn
      obtain ⟨wo, rfl⟩ : ∃ wo : World, wo = wr := ⟨_, rfl⟩
      go_wp2_with fail
      go_loopw [57] (fun i wr => ∃ k : Nat, k ≤ g.ties.length ∧ i = .int .i64 k ∧ Below wo.heap.size wo wr ∧ Hid (tiesE none g.ties = tiesE (prev g.ties k) (g.ties.drop k))) (fun i _ => g.ties.length - (intOf i).toNat)
      case atStart => exact ⟨0, Nat.zero_le _, rfl, Below.refl _ _, rfl⟩
      case round =>
        obtain ⟨k, hk, rfl, hc, HA⟩ := hrel
        have hbw' : Below w.heap.size w wr := hbw.trans (hc.mono hbw.size)
        have r0 : wr.cell? ⟨w.heap.size, 0, none⟩ = some (.slice A g.nodes.length c) := cell_below hc r0
        have r1 : wr.cell? ⟨w.heap.size, 1, none⟩ = some (.slice A' g.ties.length c') := cell_below hc r1
        by_cases hlt : k < g.ties.length
        · obtain ⟨d, hd⟩ : ∃ d, g.ties[k]? = some d := ⟨_, List.getElem?_eq_getElem hlt⟩
          obtain ⟨b, o, rfl, hall⟩ := tie_all (ht.below hbw') (by omega)
          obtain ⟨hok, x0, x1, x2⟩ := hall _ _ hd
          have HS : Hid (tiesE none g.ties = tiesE (prev g.ties k) (d :: g.ties.drop (k + 1))) := by rw [HA.out, drop_cons hd]; rfl
          have HP : Hid (prev g.ties (k + 1) = some d) := hd
          have hwr : w.heap.size < wr.heap.size := by have := hc.size; have := hb.size; omega
          have hbl : b < wr.heap.size := World.block_lt_of_cell? _ _ x0
          have hbx : Below w.heap.size w (wr.alloc (.cells #[.string d.bond, .int .i64 d.src, .int .i64 d.dst] 102)) := hbw'.alloc hbw'.size _
          have hbo : Below wo.heap.size wo (wr.alloc (.cells #[.string d.bond, .int .i64 d.src, .int .i64 d.dst] 102)) := hc.alloc hc.size _
          clear HA
          by_cases h4 : tieE d = 0
          · have hE : errV (tieE d) = .nilIface := errV_zero h4
            rcases Nat.eq_zero_or_pos k with hk0 | hk0
            · have hkd0 : decide ((0 : Int) < (k : Int)) = false := by simp; omega
              have hkd1 : (k : Int) ≤ 0 := by omega
              have hkd2 : decide (0 < k) = false := by simp; omega
              have HT : Hid (tiesE none g.ties = tiesE (prev g.ties (k + 1)) (g.ties.drop (k + 1))) := by
                unfold Hid; rw [HS.out, HP.out, hk0]; simp [tiesE, prev, h4]
              clear hall hd hk0 HS h4 ht
              go_wp2_with fail
              refine (ofTie_any d _ hok.1).mono ?_
              rintro e w1 ⟨rfl, hb1⟩
              have hb2 : Below wo.heap.size wo w1 := hbo.trans (hb1.mono (by have := hc.size; simp; omega))
              rw [hE]
              go_wp2_with fail
              go_quiet (fail)
              go_wp2_with fail
              go_roundw
              case rel => exact ⟨k + 1, by omega, by go_num, below_drewN hb2 _, HT⟩
              case measure => simp [intOf]; omega
            · obtain ⟨p, hp⟩ : ∃ p, g.ties[k - 1]? = some p := ⟨_, List.getElem?_eq_getElem (by omega)⟩
              obtain ⟨hok', y0, y1, y2⟩ := hall _ _ hp
              have hkd0 : (0 : Int) < (k : Int) := by omega
              have hkd1 : decide ((0 : Int) < (k : Int)) = true := by simp; omega
              have hkd2 : decide (0 < k) = true := by simp; omega
              have hpv : prev g.ties k = some p := by
                obtain ⟨m, rfl⟩ : ∃ m, k = m + 1 := ⟨k - 1, by omega⟩
                exact hp
              have e0 := World.cell?_alloc_lt wr (.cells #[.string d.bond, .int .i64 d.src, .int .i64 d.dst] 102) (a := ⟨b, o + (k - 1) * 3, none⟩) hbl
              have e1 := World.cell?_alloc_lt wr (.cells #[.string d.bond, .int .i64 d.src, .int .i64 d.dst] 102) (a := ⟨b, o + (k - 1) * 3 + 1, none⟩) hbl
              have e2 := World.cell?_alloc_lt wr (.cells #[.string d.bond, .int .i64 d.src, .int .i64 d.dst] 102) (a := ⟨b, o + (k - 1) * 3 + 2, none⟩) hbl
              have e3 := World.cell?_alloc_lt wr (.cells #[.string d.bond, .int .i64 d.src, .int .i64 d.dst] 102) (a := ⟨w.heap.size, 1, none⟩) hwr
              obtain ⟨f0, f1, f2⟩ := cell_box3 wr (.string d.bond) (.int .i64 d.src) (.int .i64 d.dst) 102
              have hord := fun (x : World) => order_any p d x
              by_cases h5 : 0 ≤ tieO p d
              · have h5' : decide (0 ≤ tieO p d) = true := by simpa using h5
                have HE : Hid (errV (grfE g) = .iface 115 (.int .i64 7)) := by
                  have : tiesE none g.ties = 7 := by rw [HS.out, hpv]; simp only [tiesE, h4, h5', if_true]
                  rw [HT.out, this]; rfl
                clear hall hd HS h4 ht hp h5 hpv
                go_wp2_with fail
                refine (ofTie_any d _ hok.1).mono ?_
                rintro e w1 ⟨rfl, hb1⟩
                rw [hE]
                have g1 := fun dd os => Go.cell_regrown (cell_below hb1 (e3.trans r1)) dd os
                have z0 := fun dd os => Go.cell_regrown (cell_below hb1 (e0.trans y0)) dd os
                have z1 := fun dd os => Go.cell_regrown (cell_below hb1 (e1.trans y1)) dd os
                have z2 := fun dd os => Go.cell_regrown (cell_below hb1 (e2.trans y2)) dd os
                have v0 := fun dd os => Go.cell_regrown (cell_below hb1 f0) dd os
                have v1 := fun dd os => Go.cell_regrown (cell_below hb1 f1) dd os
                have v2 := fun dd os => Go.cell_regrown (cell_below hb1 f2) dd os
                clear e0 e1 e2 e3 f0 f1 f2
                go_wp2_with fail
                refine Go.wp_region_quiet_below (by kernel_rfl) (by kernel_rfl) ?_
                repeat (go_big_quiet_step ((go_at_call 97; exact Go.Calls.regrown_of (hord _))))
                refine wpQuiet_nil ?_
                intro _ hw'
                obtain ⟨⟨dq, osq⟩, hw''⟩ := hw'
                subst hw''
                go_wp2_with fail
                go_ret
                exact ⟨by rw [HE.out]; rfl, (hbx.trans (hb1.mono hbx.size)).trans ((below_regrown w1 dq osq).mono (by have := hb1.size; have := hbx.size; omega))⟩
              · have h5' : decide (0 ≤ tieO p d) = false := by simpa using h5
                have HT' : Hid (tiesE none g.ties = tiesE (prev g.ties (k + 1)) (g.ties.drop (k + 1))) := by
                  unfold Hid; rw [HS.out, HP.out, hpv]; simp only [tiesE, h4, h5', if_true, Bool.false_eq_true, if_false]
                clear hall hd HS h4 ht hp h5 hpv
                go_wp2_with fail
                refine (ofTie_any d _ hok.1).mono ?_
                rintro e w1 ⟨rfl, hb1⟩
                rw [hE]
                have g1 := fun dd os => Go.cell_regrown (cell_below hb1 (e3.trans r1)) dd os
                have z0 := fun dd os => Go.cell_regrown (cell_below hb1 (e0.trans y0)) dd os
                have z1 := fun dd os => Go.cell_regrown (cell_below hb1 (e1.trans y1)) dd os
                have z2 := fun dd os => Go.cell_regrown (cell_below hb1 (e2.trans y2)) dd os
                have v0 := fun dd os => Go.cell_regrown (cell_below hb1 f0) dd os
                have v1 := fun dd os => Go.cell_regrown (cell_below hb1 f1) dd os
                have v2 := fun dd os => Go.cell_regrown (cell_below hb1 f2) dd os
                clear e0 e1 e2 e3 f0 f1 f2
                go_wp2_with fail
                refine Go.wp_region_quiet_below (by kernel_rfl) (by kernel_rfl) ?_
                repeat (go_big_quiet_step ((go_at_call 97; exact Go.Calls.regrown_of (hord _))))
                refine wpQuiet_nil ?_
                intro _ hw'
                obtain ⟨⟨dq, osq⟩, hw''⟩ := hw'
                subst hw''
                go_wp2_with fail
                have hb3 : Below wo.heap.size wo w1 := hbo.trans (hb1.mono hbo.size)
                go_roundw
                case rel => exact ⟨k + 1, by omega, by go_num, hb3.trans ((below_regrown w1 dq osq).mono hb3.size), HT'⟩
                case measure => simp [intOf]; omega
          · have hE : errV (tieE d) = .iface 115 (.int .i64 (tieE d)) := errV_some h4
            have HE : Hid (errV (grfE g) = .iface 115 (.int .i64 (tieE d))) := by
              have : tiesE none g.ties = tieE d := by rw [HS.out]; simp only [tiesE, h4, if_false]
              rw [HT.out, this]; exact hE
            clear hall hd HS h4 ht
            go_wp2_with fail
            refine (ofTie_any d _ hok.1).mono ?_
            rintro e w1 ⟨rfl, hb1⟩
            rw [hE]
            go_wp2_with fail
            go_ret
            exact ⟨by rw [HE.out]; rfl, hbx.trans (hb1.mono hbx.size)⟩
        · have hkl : k = g.ties.length := by omega
          subst hkl
          have HE : Hid (errV (grfE g) = .nilIface) := by
            have : tiesE none g.ties = 0 := by rw [HA.out, List.drop_length]; rfl
            rw [HT.out, this]; rfl
          clear ht
          go_wp2_with fail
          go_ret
          exact ⟨by rw [HE.out]; rfl, hbw'⟩
end Go.Proofs.YtflidfmpmakggaaGreatDoor
