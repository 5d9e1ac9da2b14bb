/- Parts: FindB, Cmp, RecS, KinB. -/
import Derived.Test.YthefofclbepkoaaMg07
import Derived.Test.YthefofclbepkoaaMg06
import Derived.Test.YthefofclbepkoaaMg05
import Derived.Test.YthefofclbepkoaaMg03
import Derived.RangeFuncNested
import Derived.RangeFuncBound
import Derived.RangeFuncCalls
import Derived.RangeFuncLeaves
import Derived.RangeFuncBox
import Derived.RangeFuncWrites
import Derived.Shelf.Abstract
import Derived.OwnWalkIn
import Derived.TacticsInMore
import Derived.LoopNIn
import Derived.LoopIn
import Derived.Test.YthefofclbepkoaaMg04
/- Contracts: graph.Find and record.Find: where a node of a number, or a property of a name, stands in a list that rises. -/
namespace Go.Proofs.Ythefofclbepkoaa
open Go.RowKit

/-- The first place at which c is not below 0. -/
def lowI {D : Type} (c : D → Int) (l : List D) : Nat := l.findIdx (fun d => decide (0 ≤ c d))
theorem lowI_le {D : Type} (c : D → Int) (l : List D) : lowI c l ≤ l.length := List.findIdx_le_length
theorem low_lt {D : Type} {c : D → Int} {l : List D} {i : Nat} {d : D} (h : i < lowI c l) (hi : l[i]? = some d) : c d < 0 := by
  obtain ⟨hl, rfl⟩ := List.getElem?_eq_some_iff.1 hi
  have := List.not_of_lt_findIdx h
  simp at this
  omega
theorem low_ge {D : Type} {R : D → D → Bool} {c : D → Int} {l : List D} (hc : chain R l = true) (mono : ∀ a b, R a b = true → 0 ≤ c a → 0 ≤ c b) :
    ∀ {i : Nat} {d : D}, lowI c l ≤ i → l[i]? = some d → 0 ≤ c d := by
  intro i
  induction i with
  | zero =>
    intro d h hi
    obtain ⟨hl, rfl⟩ := List.getElem?_eq_some_iff.1 hi
    have h0 : lowI c l = 0 := by omega
    have := List.findIdx_getElem (xs := l) (p := fun d => decide (0 ≤ c d)) (w := by show lowI c l < _; omega)
    simp only [decide_eq_true_eq] at this
    have e : List.findIdx (fun d => decide (0 ≤ c d)) l = 0 := h0
    simp only [e] at this
    exact this
  | succ i ih =>
    intro d h hi
    rcases Nat.lt_or_ge i (lowI c l) with h1 | h1
    · have h0 : lowI c l = i + 1 := by omega
      obtain ⟨hl, rfl⟩ := List.getElem?_eq_some_iff.1 hi
      have := List.findIdx_getElem (xs := l) (p := fun d => decide (0 ≤ c d)) (w := by show lowI c l < _; omega)
      simp only [decide_eq_true_eq] at this
      have e : List.findIdx (fun d => decide (0 ≤ c d)) l = i + 1 := h0
      simp only [e] at this
      exact this
    · have hl : i < l.length := by have := (List.getElem?_eq_some_iff.1 hi).1; omega
      have h2 := ih (d := l[i]) h1 (List.getElem?_eq_getElem hl)
      exact mono _ _ (chain_iff.1 hc i _ _ (List.getElem?_eq_getElem hl) hi) h2

/-! ### Nodes by number -/
def nodLt (a b : Nod) : Bool := decide (a.id < b.id)
def nodC (id : Int) (n : Nod) : Int := cmpI n.id id
def fpos (l : List Nod) (id : Int) : Nat := lowI (nodC id) l
def fhas (l : List Nod) (id : Int) : Bool := eqAt (nodC id) l (fpos l id)
theorem cmpI_neg {a b : Int} : cmpI a b < 0 ↔ a < b := by unfold cmpI; split <;> (try split) <;> omega
theorem cmpI_zero {a b : Int} : cmpI a b = 0 ↔ a = b := by unfold cmpI; split <;> (try split) <;> omega
theorem nodC_mono (id : Int) : ∀ a b, nodLt a b = true → 0 ≤ nodC id a → 0 ≤ nodC id b := by
  intro a b h h1
  unfold nodLt at h
  simp at h
  unfold nodC at h1 ⊢
  have := @cmpI_neg a.id id
  have := @cmpI_neg b.id id
  omega

theorem find1_any (d : Nod) (id : Int) (u : Value) (w : World) (hu : nodV w d u) :
    Calls Try.prog 114 #[u, .int .i64 id] w fun e w' => e = .returned (.int .i64 (nodC id d)) ∧ Below w.heap.size w w' := by
  obtain ⟨v, rfl, h1, h2, h3⟩ := hu
  obtain ⟨A, c, rfl, _, _⟩ := h3.form
  have HE : Hid (nodC id d = cmpI d.id id) := rfl
  go_enter Try.func114, Try.ntmps114
  go_wp2_with (go_at_call 54; refine (cmp_any _ _ _).mono ?_; rintro e w' ⟨rfl, rfl⟩)
  go_ret
  exact ⟨by rw [HE.out]; rfl, (Below.refl _ _).alloc (Nat.le_refl _) _⟩

theorem find_any (g : Grf) (vn vt : Value) (w : World) (hg : GrfR w vn vt g) (id : Int) (hc : chain nodLt g.nodes = true) (hl : g.nodes.length ≤ 1000) :
    Calls Try.prog 89 #[.agg #[vn, vt], .int .i64 id] w fun e w' => e = .returned (.tuple #[.int .i64 (fpos g.nodes id), .bool (fhas g.nodes id)]) ∧ Below w.heap.size w w' := by
  obtain ⟨hn, ht⟩ := hg
  obtain ⟨A, c, rfl, _, _⟩ := hn.form
  obtain ⟨A', c', rfl, _, _⟩ := ht.form
  have hb0 : Below w.heap.size w (w.alloc (.cells #[.slice A g.nodes.length c, .slice A' g.ties.length c'] 43)) := (Below.refl _ _).alloc (Nat.le_refl _) _
  have hcall := bs_nod 114 #[] (by intro args w; kernel_rfl) (.int .i64 id) (nodC id) g.nodes _ _ (hn.below hb0) (fun x u wx _ hu => find1_any x id u wx hu) (fpos g.nodes id) hl (lowI_le _ _)
    (fun i d h hi => low_lt h hi) (fun i d h hi => low_ge hc (nodC_mono id) h hi)
  have HE : Hid (fhas g.nodes id = eqAt (nodC id) g.nodes (fpos g.nodes id)) := rfl
  clear hn ht hc
  generalize eqAt (nodC id) g.nodes (fpos g.nodes id) = B at hcall HE
  generalize fpos g.nodes id = K at hcall HE
  go_enter Try.func89, Try.ntmps89
  go_wp2_with (go_at_call 113; refine hcall.mono ?_; rintro e w' ⟨rfl, hb⟩)
  go_ret2
  exact ⟨by rw [HE.out]; rfl, hb0.trans (hb.mono hb0.size)⟩

/-! ### Properties by name -/
def prpLt (a b : Prp) : Bool := ltS a.name b.name
def prpC (nm : ByteArray) (p : Prp) : Int := cmpS p.name nm
def rpos (l : List Prp) (nm : ByteArray) : Nat := lowI (prpC nm) l
def rhas (l : List Prp) (nm : ByteArray) : Bool := eqAt (prpC nm) l (rpos l nm)
end Go.Proofs.Ythefofclbepkoaa

/- Plain: the order of texts. -/
namespace Go.Proofs.Ythefofclbepkoaa
open Go.RowKit

theorem cb_zero : ∀ {a b : List UInt8}, Lib.compareBytes a b = 0 ↔ a = b
  | [], [] => by simp [Lib.compareBytes]
  | [], _ :: _ => by simp [Lib.compareBytes]
  | _ :: _, [] => by simp [Lib.compareBytes]
  | x :: a, y :: b => by
    have ih := @cb_zero a b
    rw [Lib.compareBytes]
    by_cases h1 : x < y
    · simp [h1]; intro e; subst e; exact absurd h1 (by simp)
    · by_cases h2 : y < x
      · simp [h1, h2]; intro e; subst e; exact absurd h2 (by simp)
      · have e : x = y := by
          apply UInt8.toNat_inj.1
          simp [UInt8.lt_iff_toNat_lt] at h1 h2
          omega
        subst e
        simp [h1, ih]
theorem cb_anti : ∀ (a b : List UInt8), Lib.compareBytes b a = - Lib.compareBytes a b
  | [], [] => by simp [Lib.compareBytes]
  | [], _ :: _ => by simp [Lib.compareBytes]
  | _ :: _, [] => by simp [Lib.compareBytes]
  | x :: a, y :: b => by
    have ih := cb_anti a b
    rw [Lib.compareBytes, Lib.compareBytes]
    by_cases h1 : x < y
    · have h2 : ¬ y < x := by simp [UInt8.lt_iff_toNat_lt] at h1 ⊢; omega
      simp [h1, h2]
    · by_cases h2 : y < x
      · simp [h1, h2]
      · simp [h1, h2, ih]
theorem cb_trans : ∀ {a b c : List UInt8}, Lib.compareBytes a b < 0 → Lib.compareBytes b c < 0 → Lib.compareBytes a c < 0
  | [], [], _, h, _ => by simp [Lib.compareBytes] at h
  | [], _ :: _, [], _, h => by simp [Lib.compareBytes] at h
  | [], _ :: _, _ :: _, _, _ => by simp [Lib.compareBytes]
  | _ :: _, [], _, h, _ => by simp [Lib.compareBytes] at h
  | _ :: _, _ :: _, [], _, h => by simp [Lib.compareBytes] at h
  | x :: a, y :: b, z :: c, h, k => by
    have ih := @cb_trans a b c
    rw [Lib.compareBytes] at h k ⊢
    simp only [UInt8.lt_iff_toNat_lt] at h k ⊢
    by_cases h1 : x.toNat < y.toNat
    · by_cases k1 : y.toNat < z.toNat
      · have : x.toNat < z.toNat := by omega
        simp [this]
      · by_cases k2 : z.toNat < y.toNat
        · simp [k1, k2] at k
        · have : x.toNat < z.toNat := by omega
          simp [this]
    · by_cases h2 : y.toNat < x.toNat
      · simp [h1, h2] at h
      · simp only [h1, h2, if_false] at h
        by_cases k1 : y.toNat < z.toNat
        · have : x.toNat < z.toNat := by omega
          simp [this]
        · by_cases k2 : z.toNat < y.toNat
          · simp [k1, k2] at k
          · simp only [k1, k2, if_false] at k
            have e1 : ¬ x.toNat < z.toNat := by omega
            have e2 : ¬ z.toNat < x.toNat := by omega
            simp only [e1, e2, if_false]
            exact ih h k
theorem cmpS_zero {a b : ByteArray} : cmpS a b = 0 ↔ a = b := by
  unfold cmpS
  rw [cb_zero]
  constructor
  · intro h
    have := Array.toList_inj.1 h
    cases a; cases b; simp at this; rw [this]
  · intro h; rw [h]
theorem cmpS_anti (a b : ByteArray) : cmpS b a = - cmpS a b := cb_anti _ _
theorem cmpS_trans {a b c : ByteArray} (h : cmpS a b < 0) (k : cmpS b c < 0) : cmpS a c < 0 := cb_trans h k
end Go.Proofs.Ythefofclbepkoaa

/- Contracts: record.Find, record.Get, record.Set. -/
namespace Go.Proofs.Ythefofclbepkoaa
open Go Go.RowKit


theorem clone_prps_info : (Try.prog.info? 26).map (fun i => (i.zero, i.size, i.bytes)) = some (some (.agg #[.string .empty, .int .i64 0, .int .i64 0, .string .empty]), 4, 48) := by kernel_rfl
set_option maxHeartbeats 2000000 in
theorem clone_prps {w : World} {v : Value} {l : List Prp} (hv : Sl prpL w v l) (hl : l.length ≤ 1048576) : Calls Try.prog 44 #[v] w (CloneR prpL 26 l w) := by
  obtain ⟨i0, ei, ez, ez1, ez2⟩ := info_parts clone_prps_info
  obtain ⟨A, c, rfl, _, _⟩ := hv.form
  obtain ⟨xs, hr, hx⟩ := Row.of_sl hv
  have hlen := hr.len
  have h1 := hr.oneCell one_prp
  have q22 : ∀ (w : World) (a : Option Addr) (n c n' c' : Nat), (binOp .eql 28 (.slice a n c) (.slice none n' c')).run Try.prog w = .ok (.bool a.isNone) w := fun w a n c n' c' => Lib.run_eql_slice_nil w _ _ a n c n' c' Try.underlying28
  cases A with
  | none =>
    have h0 : l = [] := by
      rcases Nat.eq_zero_or_pos l.length with h | h
      · exact List.eq_nil_of_length_eq_zero h
      · obtain ⟨_, _, hA, _⟩ := hx h; cases hA
    subst h0
    clear hv hr hx hlen h1
    go_enter Try.func44, Try.ntmps44
    go_wp2_with fail
    go_ret
    exact ⟨_, [], rfl, Own.nil _ _ _ _, rfl, Below.refl _ _⟩
  | some a =>
    have hX : Hid (0 < l.length → ∃ b o, (some a : Option Addr) = some ⟨b, o, none⟩ ∧ ∀ j u, xs[j]? = some u → w.cell? ⟨b, o + j, none⟩ = some u) := hx
    have hR := Lib.hid hr
    have hL := Lib.hid hlen
    have h1H := Lib.hid h1
    clear hv hr hx hlen h1
    go_enter Try.func44, Try.ntmps44
    go_wp2_with (at_builtin; refine wpList_append_q _ rfl (.tmp 5) (.tmp 6) 28 rfl w.heap.size 26 i0 (.agg #[.string .empty, .int .i64 0, .int .i64 0, .string .empty]) 4 48 Try.underlying28 ei ez ez1 ez2 rfl (by decide) (.slice (some ⟨w.heap.size, 0, none⟩) 0 0) 0 [] rfl Own.made (some a) l.length c xs rfl hL.out (fun hp => by
        obtain ⟨b, o, hA, hy⟩ := hX.out hp
        exact ⟨_, hA, fun j u hj => by rw [addr_add]; exact cell_below ((Below.refl _ _).alloc (Nat.le_refl _) _) (hy j u hj)⟩) h1H.out (by unfold maxLen; omega) (by omega) (by simp) ?_; intro v7 w7 hown7 hg7 hat7)
    have hb7 : Below w.heap.size w w7 := ((Below.refl _ _).alloc (Nat.le_refl _) _).grown hg7 (by simp) (fun k hk => Nat.le_of_eq (by simpa [Value.ownBlock] using hk))
    simp only [Nat.zero_add, List.nil_append] at hown7
    clear hg7 hat7
    go_ret
    exact ⟨_, xs, rfl, hown7, hR.out, hb7⟩

/-! ### The order of names -/
theorem less_cmp : ∀ (a b : List UInt8), Op.bytesLess a b = decide (Lib.compareBytes a b < 0)
  | [], [] => by simp [Op.bytesLess, Lib.compareBytes]
  | [], _ :: _ => by simp [Op.bytesLess, Lib.compareBytes]
  | _ :: _, [] => by simp [Op.bytesLess, Lib.compareBytes]
  | x :: a, y :: b => by
    rw [Op.bytesLess, Lib.compareBytes, less_cmp a b]
    by_cases h1 : x < y
    · simp [h1]
    · by_cases h2 : y < x
      · have : x ≠ y := fun e => by subst e; exact absurd h2 h1
        simp [h1, h2, this]
      · have e : x = y := by
          apply UInt8.toNat_inj.1
          simp [UInt8.lt_iff_toNat_lt] at h1 h2
          omega
        subst e
        simp [h1]
theorem ltS_cmp (a b : ByteArray) : ltS a b = decide (cmpS a b < 0) := by
  unfold ltS cmpS
  rw [less_cmp, ByteArray.toList_eq, ByteArray.toList_eq]
theorem prpC_mono (nm : ByteArray) : ∀ a b, prpLt a b = true → 0 ≤ prpC nm a → 0 ≤ prpC nm b := by
  intro a b h h1
  unfold prpLt at h
  rw [ltS_cmp] at h
  unfold prpC at h1 ⊢
  simp at h
  by_cases hb : cmpS b.name nm < 0
  · have := cmpS_trans h hb; omega
  · omega
theorem rec_ok {r : List Prp} (h : recE r = 0) : r.length ≤ 8 ∧ (∀ p ∈ r, prpE p = 0) ∧ chain prpLt r = true := by
  unfold recE at h
  by_cases h1 : 8 < r.length
  · rw [if_pos h1] at h; omega
  rw [if_neg h1] at h
  by_cases h2 : firstE prpE r = 0
  · rw [if_pos h2] at h
    cases hc : chain (fun a b : Prp => ltS a.name b.name) r with
    | true =>
      refine ⟨by omega, fun p hp => ?_, hc⟩
      have key : ∀ l : List Prp, firstE prpE l = 0 → ∀ p ∈ l, prpE p = 0 := by
        intro l
        induction l with
        | nil => intro _ p hp; simp at hp
        | cons a l ih =>
          intro h p hp
          rw [firstE] at h
          split at h
          · rename_i h0
            rcases List.mem_cons.1 hp with rfl | hp
            · exact h0
            · exact ih h p hp
          · rename_i h0; exact absurd h h0
      exact key r h2 p hp
    | false => rw [hc] at h; simp at h
  · rw [if_neg h2] at h; exact absurd h h2
theorem rfind1_any (d : Prp) (nm : ByteArray) (w : World) :
    Calls Try.prog 49 #[.agg #[.string d.name, .int .i64 d.v.ty, .int .i64 d.v.n, .string d.v.s], .string nm] w fun e w' => e = .returned (.int .i64 (cmpS d.name nm)) ∧ Below w.heap.size w w' := by
  go_enter Try.func49, Try.ntmps49
  go_wp2_with (go_at_call 50; refine (scmp_any _ _ _).mono ?_; rintro e w' ⟨rfl, rfl⟩)
  go_ret
  exact ⟨rfl, (Below.refl _ _).alloc (Nat.le_refl _) _⟩
theorem rfind_any (r : List Prp) (nm : ByteArray) (v : Value) (w : World) (hv : Sl prpL w v r) (hc : chain prpLt r = true) (hl : r.length ≤ 1000) :
    Calls Try.prog 26 #[v, .string nm] w fun e w' => e = .returned (.tuple #[.int .i64 (rpos r nm), .bool (rhas r nm)]) ∧ Below w.heap.size w w' := by
  have hcall := bs_prp 49 #[] (by intro args w; kernel_rfl) (.string nm) (prpC nm) r v w hv (fun d u wx _ hu => by obtain ⟨rfl, _⟩ := hu; exact rfind1_any d nm wx) (rpos r nm) hl (lowI_le _ _)
    (fun i d hi hd => low_lt hi hd) (fun i d hi hd => low_ge hc (prpC_mono nm) hi hd)
  obtain ⟨A, c, rfl, _, _⟩ := hv.form
  have HE : Hid (rhas r nm = eqAt (prpC nm) r (rpos r nm)) := rfl
  clear hv hc
  generalize eqAt (prpC nm) r (rpos r nm) = B at *
  generalize rpos r nm = K at *
  go_enter Try.func26, Try.ntmps26
  go_wp2_with fail
  refine hcall.mono ?_
  rintro e w' ⟨rfl, hb⟩
  go_wp2_with fail
  go_ret2
  exact ⟨by rw [HE.out]; rfl, hb⟩

/-! ### record.Get -/
theorem res3 {w w1 : World} {T : TypeId} {c0 c1 c2 : Value} (a b c : Value) (hB : Below w.heap.size w w1) (h : w1.heap[w.heap.size]? = some (.cells #[c0, c1, c2] T (0, 0))) :
    Below w.heap.size w (((w1.setCell ⟨w.heap.size, 0, none⟩ a).setCell ⟨w.heap.size, 1, none⟩ b).setCell ⟨w.heap.size, 2, none⟩ c) ∧
    (((w1.setCell ⟨w.heap.size, 0, none⟩ a).setCell ⟨w.heap.size, 1, none⟩ b).setCell ⟨w.heap.size, 2, none⟩ c).cell? ⟨w.heap.size, 0, none⟩ = some a ∧
    (((w1.setCell ⟨w.heap.size, 0, none⟩ a).setCell ⟨w.heap.size, 1, none⟩ b).setCell ⟨w.heap.size, 2, none⟩ c).cell? ⟨w.heap.size, 1, none⟩ = some b ∧
    (((w1.setCell ⟨w.heap.size, 0, none⟩ a).setCell ⟨w.heap.size, 1, none⟩ b).setCell ⟨w.heap.size, 2, none⟩ c).cell? ⟨w.heap.size, 2, none⟩ = some c := by
  have h3 := setCell_block (setCell_block (setCell_block h 0 a) 1 b) 2 c
  exact ⟨((hB.setCell (p := ⟨_, 0, none⟩) (Nat.le_refl _) _).setCell (p := ⟨_, 1, none⟩) (Nat.le_refl _) _).setCell (p := ⟨_, 2, none⟩) (Nat.le_refl _) _, block_cell h3 0, block_cell h3 1, block_cell h3 2⟩
def getE (r : List Prp) (nm : ByteArray) : Int := if recE r = 0 then (if rhas r nm then 0 else 5) else recE r
def noVal : Val := ⟨0, 0, .empty⟩
def getV (r : List Prp) (nm : ByteArray) : Val := if getE r nm = 0 then (match r[rpos r nm]? with | some p => p.v | none => noVal) else noVal
theorem rhas_some {r : List Prp} {nm : ByteArray} (h : rhas r nm = true) : ∃ p, r[rpos r nm]? = some p := by
  unfold rhas eqAt at h
  cases hd : r[rpos r nm]? with
  | none => rw [hd] at h; simp at h
  | some d => exact ⟨d, rfl⟩
set_option maxHeartbeats 2000000 in
theorem get_any (r : List Prp) (nm : ByteArray) (v : Value) (w : World) (hv : Sl prpL w v r) :
    Calls Try.prog 8 #[v, .string nm] w fun e w' => e = .returned (.tuple #[.agg #[.int .i64 (getV r nm).ty, .int .i64 (getV r nm).n, .string (getV r nm).s], errV (getE r nm)]) ∧ Below w.heap.size w w' := by
  have hb0 : Below w.heap.size w (w.alloc (.cells #[.int .i64 0, .int .i64 0, .string .empty] 24)) := (Below.refl _ _).alloc (Nat.le_refl _) _
  have hbk := heap_alloc_new w (.cells #[.int .i64 0, .int .i64 0, .string .empty] 24)
  have h1 := recCheck_any r v _ (hv.below hb0)
  have HV := Lib.hid hv
  obtain ⟨A, c, rfl, _, _⟩ := hv.form
  clear hv
  go_enter Try.func8, Try.ntmps8
  go_wp2_with fail
  refine h1.mono ?_
  clear h1
  rintro e w1 ⟨rfl, hb1⟩
  have hB1 := hb0.trans (hb1.mono hb0.size)
  have hb1k := (hb1.block _ (Array.getElem?_eq_some_iff.1 hbk).1).trans hbk
  clear hb0 hb1 hbk
  by_cases he : recE r = 0
  case neg =>
    have HE : Hid (errV (getE r nm) = .iface 82 (.int .i64 (recE r)) ∧ getV r nm = noVal) := by
      have h0 : getE r nm = recE r := by unfold getE; rw [if_neg he]
      exact ⟨by rw [h0]; exact errV_some he, by unfold getV; rw [h0, if_neg he]⟩
    obtain ⟨k1, k2, k3, k4⟩ := res3 (.int .i64 0) (.int .i64 0) (.string ⟨#[]⟩) hB1 hb1k
    have y0 := block_cell hb1k 0
    have y1 := block_cell hb1k 1
    have y2 := block_cell hb1k 2
    have g0 := block_free hb1k 0
    have g1 := block_free hb1k 1
    have g2 := block_free hb1k 2
    rw [errV_some he]
    clear he hb1k
    go_wp2_with fail
    exact bodyPost_ret (v := .tuple #[.agg #[.int .i64 0, .int .i64 0, .string ⟨#[]⟩], .iface 82 (.int .i64 (recE r))]) (by simp [results, Try.results8, go_sem, k2, k3, k4]) rfl ⟨by rw [HE.out.1, HE.out.2]; rfl, k1⟩
  obtain ⟨hl8, _, hch⟩ := rec_ok he
  have HE : Hid (getE r nm = if rhas r nm then 0 else 5) := by unfold Hid getE; rw [if_pos he]
  rw [errV_zero he]
  have hfd := rfind_any r nm _ w1 (HV.out.below hB1) hch (by omega)
  clear he hch
  go_wp2_with fail
  refine hfd.mono ?_
  clear hfd
  rintro e w2 ⟨rfl, hb2⟩
  have hB2 := hB1.trans (hb2.mono hB1.size)
  have hb2k := (hb2.block _ (Array.getElem?_eq_some_iff.1 hb1k).1).trans hb1k
  have y0 := block_cell hb2k 0
  have y1 := block_cell hb2k 1
  have y2 := block_cell hb2k 2
  have g0 := block_free hb2k 0
  have g1 := block_free hb2k 1
  have g2 := block_free hb2k 2
  cases hq : rhas r nm with
  | false =>
    have HF : Hid (getE r nm = 5 ∧ getV r nm = noVal) := by
      have h0 : getE r nm = 5 := by rw [HE.out, hq]; rfl
      exact ⟨h0, by unfold getV; rw [h0]; rfl⟩
    obtain ⟨k1, k2, k3, k4⟩ := res3 (.int .i64 0) (.int .i64 0) (.string ⟨#[]⟩) hB2 hb2k
    clear hq HE hb1k hb2k
    go_wp2_with fail
    exact bodyPost_ret (v := .tuple #[.agg #[.int .i64 0, .int .i64 0, .string ⟨#[]⟩], .iface 82 (.int .i64 5)]) (by simp [results, Try.results8, go_sem, k2, k3, k4]) rfl ⟨by rw [HF.out.1, HF.out.2]; rfl, k1⟩
  | true =>
    obtain ⟨p, hp⟩ := rhas_some hq
    have HF : Hid (getE r nm = 0 ∧ getV r nm = p.v) := by
      have h0 : getE r nm = 0 := by rw [HE.out, hq]; rfl
      exact ⟨h0, by unfold getV; rw [if_pos h0, hp]⟩
    obtain ⟨k1, k2, k3, k4⟩ := res3 (.int .i64 p.v.ty) (.int .i64 p.v.n) (.string p.v.s) hB2 hb2k
    have hpl := (List.getElem?_eq_some_iff.1 hp).1
    obtain ⟨b, o, rfl, _, x0, x1, x2, x3⟩ := prp_at (HV.out.below hB2) hp
    generalize rpos r nm = K at *
    have hpl' : (K : Int) < (r.length : Int) := by omega
    clear hq HE hp hb1k hb2k
    go_wp2_with fail
    exact bodyPost_ret (v := .tuple #[.agg #[.int .i64 p.v.ty, .int .i64 p.v.n, .string p.v.s], .nilIface]) (by simp [results, Try.results8, go_sem, k2, k3, k4]) rfl ⟨by rw [HF.out.1, HF.out.2, errV_zero rfl], k1⟩
end Go.Proofs.Ythefofclbepkoaa

/- Contract: slices.Backward over kinds: the last first, then the one ahead of it, .., for every loop body that keeps what lay. -/
namespace Go.Proofs.Ythefofclbepkoaa
open Go Go.RowKit Go.Shelf

attribute [local go_sem] Oper.semAt_some

/-- A kind's value, in whatever later world. -/
structure KndAt (w : World) (b o : Nat) (l : List Knd) (f : Fin l.length → Value × Value) : Prop where
  at_ : ∀ i : Fin l.length, w.cell? ⟨b, o + i.1 * 3, none⟩ = some (.string (l[i.1]).name) ∧ w.cell? ⟨b, o + i.1 * 3 + 1, none⟩ = some (f i).1 ∧ w.cell? ⟨b, o + i.1 * 3 + 2, none⟩ = some (f i).2 ∧
    Sm (l[i.1]).name ∧ Sl strL w (f i).1 (l[i.1]).ofs ∧ Sl fldL w (f i).2 (l[i.1]).fields
theorem kndAt_of {w : World} {A : Option Addr} {n c : Nat} {l : List Knd} (h : Sl kndL w (.slice A n c) l) (h0 : 0 < l.length) : ∃ b o f, A = some ⟨b, o, none⟩ ∧ KndAt w b o l f := by
  obtain ⟨b, o, hA, hall⟩ := knd_all h h0
  have : ∀ i : Fin l.length, ∃ p : Value × Value, w.cell? ⟨b, o + i.1 * 3, none⟩ = some (.string (l[i.1]).name) ∧ w.cell? ⟨b, o + i.1 * 3 + 1, none⟩ = some p.1 ∧ w.cell? ⟨b, o + i.1 * 3 + 2, none⟩ = some p.2 ∧
      Sm (l[i.1]).name ∧ Sl strL w p.1 (l[i.1]).ofs ∧ Sl fldL w p.2 (l[i.1]).fields := fun i => by
    obtain ⟨u, x, h1, h2, h3, c0, c1, c2⟩ := hall i.1 _ (List.getElem?_eq_getElem i.2)
    exact ⟨(u, x), c0, c1, c2, h1, h2, h3⟩
  exact ⟨b, o, fun i => Classical.choose (this i), hA, ⟨fun i => Classical.choose_spec (this i)⟩⟩
theorem KndAt.below {w w' : World} {b o : Nat} {l : List Knd} {f : Fin l.length → Value × Value} (hb : Below w.heap.size w w') (h : KndAt w b o l f) : KndAt w' b o l f :=
  ⟨fun i => let ⟨c0, c1, c2, h1, h2, h3⟩ := h.at_ i; ⟨cell_below hb c0, cell_below hb c1, cell_below hb c2, h1, h2.below hb, h3.below hb⟩⟩
/-- What a round is handed. -/
def kndEnc (l : List Knd) (f : Fin l.length → Value × Value) (i : Fin l.length) : Array Value := #[.int .i64 (i.1 : Int), .agg #[.string (l[i.1]).name, (f i).1, (f i).2]]
def downL (n : Nat) : List (Fin n) := (List.finRange n).reverse
theorem downL_length (n : Nat) : (downL n).length = n := by simp [downL]
theorem downL_get (n m k : Nat) (h : m + 1 + k = n) : (downL n)[k]? = some ⟨m, by omega⟩ := by
  unfold downL
  rw [List.getElem?_reverse (by simp; omega)]
  simp only [List.length_finRange]
  rw [List.getElem?_eq_getElem (by simp; omega)]
  congr 1
  apply Fin.ext
  simp
  omega
theorem take_step {α : Type} {l : List α} {k : Nat} {x : α} (h : l[k]? = some x) : l.take (k + 1) = l.take k ++ [x] := by
  rw [List.take_add_one, h]; rfl

/-- What a round that goes on keeps: all that lay below n, and the iterator's own box. -/
def KeepsBox (n Bs : Nat) (W W' : World) : Prop := Below n W W' ∧ W'.cell? ⟨Bs, 0, none⟩ = W.cell? ⟨Bs, 0, none⟩
theorem keepsBox_t {n Bs : Nat} {X Y Z : World} (h : KeepsBox n Bs X Y) (k : KeepsBox n Bs Y Z) : KeepsBox n Bs X Z := ⟨h.1.trans k.1, k.2.trans h.2⟩
theorem keepsBox_b {n Bs : Nat} {w : World} (hn : n ≤ w.heap.size) (hB : Bs < w.heap.size) (W : World) (l : Nat) (o o' : Obj) (hl : w.heap.size ≤ l) (h : W.heap[l]? = some o) (h1 : o.isCells = false) (h2 : o.isWalk = false) : KeepsBox n Bs W (W.putObj l o') := by
  refine ⟨belowK_b hn W l o o' hl h h1 h2, ?_⟩
  have hb : Below (Bs + 1) W (W.putObj l o') := belowK_b (w := w) (by omega) W l o o' hl h h1 h2
  exact hb.cell (p := ⟨Bs, 0, none⟩) (by simp)

set_option maxRecDepth 100000 in
set_option maxHeartbeats 2000000 in
theorem backward1_in (F : Fence) (n : Nat) (hF : F.fn 137) (hro : F.round = none) (hn : 1 ≤ n) (lr Bs c : Nat) (w0 : World) (A : Option Addr) (l : List Knd) (f : Fin l.length → Value × Value)
    (hl : Sl kndL w0 (.slice A l.length c) l) (hf : 0 < l.length → ∃ b o, A = some ⟨b, o, none⟩ ∧ KndAt w0 b o l f) (J Jx : List (Fin l.length) → World → Prop)
    (hY : ∀ pre x W, J pre W → pre.length < l.length → YieldAt F (n - 1) Try.prog lr (kndEnc l f x) W fun e W' =>
      (e = .returned (.bool true) ∧ J (pre ++ [x]) W' ∧ KeepsBox w0.heap.size Bs W W') ∨ (e = .returned (.bool false) ∧ Jx (pre ++ [x]) W'))
    (W : World) (hW : Below w0.heap.size w0 W) (hBs : W.cell? ⟨Bs, 0, none⟩ = some (.slice A l.length c)) (h0 : J [] W) :
    CallsIn F n Try.prog 137 #[.func (.yield lr) #[] #[], .pointer (some ⟨Bs, 0, none⟩)] W fun e W' => (∃ v, e = .returned v) ∧
      ((∃ ys, ys = downL l.length ∧ J ys W') ∨ (∃ pre, pre <+: downL l.length ∧ Jx pre W')) := by
  obtain ⟨_, _, _, _, hc2⟩ := hl.form
  have hlm : (l.length : Int) ≤ 9223372036854775807 := by unfold maxLen at hc2; omega
  refine callsIn_of_wp Try.func137 rfl hF ?_ hro
  simp only [Try.ntmps137, List.size_toArray, List.length_cons, List.length_nil, Nat.reduceAdd, Nat.reduceSub, Array.replicate_succ, Array.replicate_zero, List.push_toArray, List.append_toArray, List.nil_append, List.cons_append]
  gi_wp2
  gi_loopw [3] (fun i wr => ∃ (z : Int) (m k : Nat), i = .int .i64 z ∧ m + k = l.length ∧ z = (m : Int) - 1 ∧ J ((downL l.length).take k) wr ∧ Below w0.heap.size w0 wr ∧ wr.cell? ⟨Bs, 0, none⟩ = some (.slice A l.length c)) (fun i _ => (intOf i + 1).toNat)
  case atStart => exact ⟨_, l.length, 0, by go_num, by omega, rfl, h0, hW, hBs⟩
  case round =>
    obtain ⟨z, m, k, rfl, hmk, hz, hJs, hnx, hbox⟩ := hrel
    cases m with
    | zero =>
      obtain rfl : k = l.length := by omega
      have hz0 : z < 0 := by omega
      have hz1 : decide (0 ≤ z) = false := decide_eq_false (by omega)
      clear hz
      gi_wp2
      go_end0
      exact ⟨⟨_, rfl⟩, .inl ⟨_, rfl, by rw [List.take_of_length_le (by simp [downL_length])] at hJs; exact hJs⟩⟩
    | succ m =>
      obtain rfl : z = (m : Int) := by omega
      have hm0 : (0 : Int) ≤ (m : Int) := by omega
      have hm1 : decide ((0 : Int) ≤ (m : Int)) = true := decide_eq_true hm0
      have hml : m < l.length := by omega
      have hml' : (m : Int) < (l.length : Int) := by omega
      have hg := downL_get l.length m k (by omega)
      obtain ⟨b, o, rfl, hK⟩ := hf (by omega)
      obtain ⟨c0, c1, c2, _, _, _⟩ := (hK.below hnx).at_ ⟨m, hml⟩
      dsimp only at c0 c1 c2
      obtain ⟨fn, tmps, assign, body, hy, hR⟩ := hY _ ⟨m, hml⟩ wr hJs (by simp [downL_length]; omega)
      simp only [kndEnc] at hy
      generalize (l[m]'hml).name = d0 at c0 hy
      generalize (f ⟨m, hml⟩).1 = d1 at c1 hy
      generalize (f ⟨m, hml⟩).2 = d2 at c2 hy
      have HG := Lib.hid hg
      clear hg hz hK hf hY hW h0
      gi_wp2
      refine hR.mono ?_
      rintro e W3 (⟨rfl, hJ3, hk3⟩ | ⟨rfl, hJx3⟩)
      · gi_wp2
        go_roundw
        case rel => exact ⟨(m : Int) - 1, m, k + 1, by go_num, by omega, rfl, by rw [take_step HG.out]; exact hJ3, hnx.trans hk3.1, hk3.2.trans hbox⟩
        case measure => simp [intOf]
      · gi_wp2
        refine bodyPost_ret (results_none rfl _ _ _) rfl ?_
        exact ⟨⟨_, rfl⟩, .inr ⟨_, by rw [← take_step HG.out]; exact List.take_prefix _ _, hJx3⟩⟩

set_option maxHeartbeats 1000000 in
theorem backward_in (F : Fence) (n : Nat) (hF : F.fn 125) (hro : F.round = none) (v : Value) (A : Option Addr) (len c : Nat) (hv : v = .slice A len c) (w : World) :
    CallsIn F n Try.prog 125 #[v] w fun e w' => e = .returned (.func (.func 137) #[] #[.pointer (some ⟨w.heap.size, 0, none⟩)]) ∧ w' = w.alloc (.cells #[v] 65) := by
  subst hv
  refine callsIn_of_wp Try.func125 rfl hF ?_ hro
  simp only [Try.ntmps125, List.size_toArray, List.length_cons, List.length_nil, Nat.reduceAdd, Nat.reduceSub, Array.replicate_succ, Array.replicate_zero, List.push_toArray, List.append_toArray, List.nil_append, List.cons_append]
  gi_wp2
  go_ret
  exact ⟨rfl, rfl⟩
theorem backward_stops (F : Fence) (n : Nat) (hF : F.fn 137) (hro : F.round = none) (hn : 1 ≤ n) (Bs c : Nat) (w0 W0 : World) (A : Option Addr) (l : List Knd) (f : Fin l.length → Value × Value)
    (hl : Sl kndL w0 (.slice A l.length c) l) (hf : 0 < l.length → ∃ b o, A = some ⟨b, o, none⟩ ∧ KndAt w0 b o l f) (hW0 : Below w0.heap.size w0 W0) (hBs : W0.cell? ⟨Bs, 0, none⟩ = some (.slice A l.length c)) :
    SeqStopsK F n Try.prog 137 #[.pointer (some ⟨Bs, 0, none⟩)] (kndEnc l f) (KeepsBox w0.heap.size Bs) (fun ys => ys = downL l.length) (fun pre => pre <+: downL l.length) l.length W0 := fun lr J Jx W hW _ _ hY h0 =>
  backward1_in F n hF hro hn lr Bs c w0 A l f hl hf J Jx hY W (hW0.trans (hW.mono hW0.size)) (cell_below hW hBs) h0
end Go.Proofs.Ythefofclbepkoaa
