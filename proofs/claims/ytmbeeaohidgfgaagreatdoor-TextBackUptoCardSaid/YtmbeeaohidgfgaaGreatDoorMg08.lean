/- Parts: Same, TxW, InsC, InsB, RecA, RecB. -/
import Derived.Test.YtmbeeaohidgfgaaGreatDoorMg07
import Derived.Test.YtmbeeaohidgfgaaGreatDoorMg03
import Derived.Test.YtmbeeaohidgfgaaGreatDoorMg06
import Derived.Test.YtmbeeaohidgfgaaGreatDoorRows
import Derived.Maps.RangeWalk
import Derived.Test.YtmbeeaohidgfgaaGreatDoorMg04
/- Plain: blocks of one element type stay as they are where only blocks of other types are written. No condition. -/
namespace Go.Proofs.YtmbeeaohidgfgaaGreatDoor
open Go Go.RowKit

/-- All blocks of cells of type T are as they were. -/
def Same (T : TypeId) (w w' : World) : Prop := ∀ (k : Nat) c fr, w.heap[k]? = some (.cells c T fr) → w'.heap[k]? = some (.cells c T fr)
theorem Same.refl (T : TypeId) (w : World) : Same T w w := fun _ _ _ h => h
theorem Same.trans {T : TypeId} {a b c : World} (h : Same T a b) (k : Same T b c) : Same T a c := fun i x fr hx => k i x fr (h i x fr hx)
theorem Same.below {T : TypeId} {w w' : World} (hb : Below w.heap.size w w') : Same T w w' := fun k _ _ h => (hb.block k (Array.getElem?_eq_some_iff.1 h).1).trans h
theorem Same.alloc {T : TypeId} (w : World) (o : Obj) : Same T w (w.alloc o) := .below ((Below.refl _ _).alloc (Nat.le_refl _) _)
theorem Same.drewN {T : TypeId} (w : World) (n : Nat) : Same T w (w.drewN n) := fun _ _ _ h => h
theorem Same.drew {T : TypeId} (w : World) : Same T w w.drew := fun _ _ _ h => h
theorem Same.grown {T e : TypeId} {w w' : World} {B sz n : Nat} {v : Value} {xs : List Value} (ho : Own w B e sz v n xs) (hne : e ≠ T) (hg : w.grownBy w' v.ownBlock) : Same T w w' := fun k c fr h => by
  have hlt := (Array.getElem?_eq_some_iff.1 h).1
  refine (hg.block k hlt fun e' => ?_).trans h
  rcases ho.2 with ⟨rfl, _⟩ | ⟨g, o, cap, cur, rfl, _, hg2, _⟩
  · simp [Value.ownBlock] at e'
  · simp [Value.ownBlock] at e'
    subst e'
    rw [h] at hg2
    injection hg2 with hg2
    injection hg2 with _ h2 _
    exact hne h2.symm
theorem Same.setCell {T e : TypeId} {w : World} {p : Addr} {c : Array Value} {fr : Nat × Nat} (hp : w.heap[p.block]? = some (.cells c e fr)) (hne : e ≠ T) (u : Value) : Same T w (w.setCell p u) := fun k c' fr' h => by
  refine (Below.heap_setCell w p u k (fun e' => ?_)).trans h
  subst e'
  rw [h] at hp
  injection hp with hp
  injection hp with _ h2 _
  exact hne h2.symm
theorem Own.same {w w' : World} {B : Nat} {e : TypeId} {sz : Nat} {v : Value} {n : Nat} {xs : List Value} (h : Own w B e sz v n xs) (hs : Same e w w') : Own w' B e sz v n xs := by
  refine ⟨h.1, ?_⟩
  rcases h.2 with hn | ⟨g, o, cap, cur, rfl, hb, hg, rest⟩
  · exact .inl hn
  · exact .inr ⟨g, o, cap, cur, rfl, hb, hs g cur _ hg, rest⟩

/-- Nodes of which each one's record is the call's own. -/
def OwnNods (w : World) (B : Nat) : List Nod → List Value → Prop
  | [], xs => xs = []
  | d :: l, xs => ∃ u ys, xs = [.int .i64 d.id, .string d.kind, u] ++ ys ∧ I64 d.id ∧ Sm d.kind ∧ (∀ p ∈ d.props, p.ok) ∧ Own w B 27 4 u d.props.length (d.props.flatMap Prp.enc) ∧ OwnNods w B l ys
theorem OwnNods.same {w w' : World} {B : Nat} (hs : Same 27 w w') : ∀ {l : List Nod} {xs : List Value}, OwnNods w B l xs → OwnNods w' B l xs
  | [], _, h => h
  | _ :: _, _, h => by
    obtain ⟨u, ys, rfl, h1, h2, h3, h4, h5⟩ := h
    exact ⟨u, ys, rfl, h1, h2, h3, h4.same hs, h5.same hs⟩
theorem OwnNods.snoc {w : World} {B : Nat} {d : Nod} {u : Value} (h1 : I64 d.id) (h2 : Sm d.kind) (h3 : ∀ p ∈ d.props, p.ok) (h4 : Own w B 27 4 u d.props.length (d.props.flatMap Prp.enc)) :
    ∀ {l : List Nod} {xs : List Value}, OwnNods w B l xs → OwnNods w B (l ++ [d]) (xs ++ [.int .i64 d.id, .string d.kind, u])
  | [], xs, h => by rw [show xs = [] from h]; exact ⟨u, [], by simp, h1, h2, h3, h4, rfl⟩
  | e :: l, xs, h => by
    obtain ⟨v, ys, rfl, k1, k2, k3, k4, k5⟩ := h
    exact ⟨v, ys ++ [.int .i64 d.id, .string d.kind, u], by simp, k1, k2, k3, k4, k5.snoc h1 h2 h3 h4⟩
theorem OwnNods.row {w : World} {B : Nat} : ∀ {l : List Nod} {xs : List Value}, OwnNods w B l xs → Row nodL w l xs
  | [], _, h => h
  | _ :: _, _, h => by
    obtain ⟨u, ys, rfl, h1, h2, h3, h4, h5⟩ := h
    exact ⟨_, ys, rfl, ⟨u, rfl, h1, h2, h4.prps h3⟩, h5.row⟩
theorem Own.nods {w : World} {B B' : Nat} {e : TypeId} {v : Value} {l : List Nod} {xs : List Value} (h : Own w B e 3 v l.length xs) (hn : OwnNods w B' l xs) : Sl nodL w v l := Own.row (L := nodL) h hn.row
theorem Own.ne_block {w : World} {B : Nat} {e e' : TypeId} {sz n k : Nat} {v : Value} {xs : List Value} {c : Array Value} {fr : Nat × Nat} (ho : Own w B e sz v n xs) (h : w.heap[k]? = some (.cells c e' fr)) (hne : e' ≠ e) : some k ≠ v.ownBlock := by
  intro e1
  rcases ho.2 with ⟨rfl, _⟩ | ⟨g, o, cap, cur, rfl, _, hg2, _⟩
  · simp [Value.ownBlock] at e1
  · simp [Value.ownBlock] at e1
    subst e1
    rw [h] at hg2
    injection hg2 with hg2
    injection hg2 with _ h2 _
    exact hne h2
theorem grown_block {w w' : World} {k : Nat} {row : Option Nat} {o : Obj} (hg : w.grownBy w' row) (h : w.heap[k]? = some o) (hne : some k ≠ row) : w'.heap[k]? = some o :=
  (hg.block k (Array.getElem?_eq_some_iff.1 h).1 hne).trans h
theorem block_cell {w : World} {k : Nat} {c : Array Value} {T : TypeId} {fr : Nat × Nat} (h : w.heap[k]? = some (.cells c T fr)) (i : Nat) : w.cell? ⟨k, i, none⟩ = c[i]? := by
  simp [World.cell?, h]
theorem block_free {w : World} {k : Nat} {c : Array Value} {T : TypeId} (h : w.heap[k]? = some (.cells c T (0, 0))) (i : Nat) : w.frozen? ⟨k, i, none⟩ = false := by
  simp [World.frozen?, h]
theorem setCell_block {w : World} {k : Nat} {c : Array Value} {T : TypeId} {fr : Nat × Nat} (h : w.heap[k]? = some (.cells c T fr)) (i : Nat) (u : Value) : (w.setCell ⟨k, i, none⟩ u).heap[k]? = some (.cells (c.setIfInBounds i u) T fr) := by
  simp [World.setCell, Array.getElem?_modify, h]

theorem map_bs (xs : List (List UInt8)) : (xs.map bs).map (·.data.toList) = xs := by
  rw [List.map_map]
  conv => rhs; rw [← List.map_id xs]
  exact List.map_congr_left fun x _ => bs_list x
theorem list_bs (xs : List ByteArray) : (xs.map (·.data.toList)).map bs = xs := by
  rw [List.map_map]
  conv => rhs; rw [← List.map_id xs]
  exact List.map_congr_left fun x _ => bs_of x
/-- Words, in a row of the call's own. -/
def wv (xs : List (List UInt8)) : List Value := xs.map fun l => Value.string (bs l)
theorem wv_at {xs : List (List UInt8)} {j : Nat} {x : ByteArray} (h : (xs.map bs)[j]? = some x) : (wv xs)[j]? = some (.string x) := by
  rw [List.getElem?_map] at h
  obtain ⟨l, hl, rfl⟩ := Option.map_eq_some_iff.1 h
  unfold wv
  rw [List.getElem?_map, hl]; rfl
/-- What Join makes of them. -/
theorem join_own (B : Nat) (w : World) (bk o c : Nat) (xs : List (List UInt8)) (sep : List UInt8) (h : Own w B 9 1 (.slice (some ⟨bk, o, none⟩) xs.length c) xs.length (wv xs)) (hl : xs.length ≤ 1000) (hc : xs.length ≤ c) (hj : (Lib.join xs sep).length ≤ 1000000) :
    Calls Tryz.prog 25 #[.slice (some ⟨bk, o, none⟩) xs.length c, .string (bs sep)] w fun e w' => e = .returned (.string (bs (Lib.join xs sep))) ∧ Below w.heap.size w w' := by
  have h1 := tx_join bk o c (xs.map bs) (bs sep) w (fun j x hj => h.cell rfl (wv_at hj)) (h.lt bk rfl).2 (by rw [List.length_map]; omega) (by rw [List.length_map]; exact hc) (by rw [map_bs, bs_list]; omega)
  rw [map_bs, bs_list, List.length_map] at h1
  exact h1

section
variable {P : Program} (w : World) (B : Nat) (e tS tV tI : TypeId) (i0 : TypeInfo) (z : Value) (sz bytes : Nat)
  (hS : P.underlying tS = some (.slice e)) (hI : P.underlying tI = some (.int .i64)) (ei : P.info? e = some i0) (ez : i0.zero = some z) (ez1 : i0.size = sz) (ez2 : i0.bytes = bytes) (hzs : z.cells.size = sz) (hsz : 0 < sz) (hby : bytes ≤ 4096)
  (g o n cap : Nat) (xs : List Value) (hown : Own w B e sz (.slice (some ⟨g, o, none⟩) n cap) n xs) (i : Nat) (hi : i < n) (hn : n ≤ 1000000)
  (vb : Nat) (cs : List Value) (hcl : cs.length = sz) (hcs : w.heap[vb]? = some (.cells cs.toArray e (0, 0))) (h1 : ∀ u ∈ cs, u.oneCell' = true) (hx1 : ∀ u ∈ xs, u.oneCell' = true)
include hS ei ez1 hown hi hcl hcs h1 hx1 hsz

include hI ez ez2 hzs hby hn in
omit h1 hx1 in
end

open Go.RowKit

/-- The fault of the first that has one; 0: none has. -/
def firstE {D : Type} (f : D → Int) : List D → Int
  | [] => 0
  | d :: r => if f d = 0 then firstE f r else f d
theorem firstE_hit {D : Type} {f : D → Int} : ∀ {l : List D} {k : Nat} {d : D}, (∀ j x, j < k → l[j]? = some x → f x = 0) → l[k]? = some d → f d ≠ 0 → firstE f l = f d
  | a :: r, 0, d, _, h2, h3 => by
    simp at h2
    subst h2
    simp [firstE, h3]
  | a :: r, k + 1, d, h1, h2, h3 => by
    have h0 : f a = 0 := h1 0 a (by omega) rfl
    simp only [firstE, h0, if_true]
    exact firstE_hit (l := r) (k := k) (fun j x hj hx => h1 (j + 1) x (by omega) (by simpa using hx)) (by simpa using h2) h3
theorem firstE_none {D : Type} {f : D → Int} : ∀ {l : List D}, (∀ j x, j < l.length → l[j]? = some x → f x = 0) → firstE f l = 0
  | [], _ => rfl
  | a :: r, h1 => by
    have h0 : f a = 0 := h1 0 a (by simp) rfl
    simp only [firstE, h0, if_true]
    exact firstE_none (l := r) (fun j x hj hx => h1 (j + 1) x (by simpa using hj) (by simpa using hx))
theorem zero_step {D : Type} {f : D → Int} {l : List D} {k : Nat} {d : D} (h1 : ∀ j x, j < k → l[j]? = some x → f x = 0) (h2 : l[k]? = some d) (h3 : f d = 0) : ∀ j x, j < k + 1 → l[j]? = some x → f x = 0 := by
  intro j x hj hx
  by_cases e : j = k
  · subst e
    have := h2.symm.trans hx
    cases this
    exact h3
  · exact h1 j x (by omega) hx

/-- Each is ahead of the next one. -/
def chain {D : Type} (R : D → D → Bool) : List D → Bool
  | a :: b :: r => R a b && chain R (b :: r)
  | _ => true
theorem chain_iff {D : Type} {R : D → D → Bool} : ∀ {l : List D}, chain R l = true ↔ ∀ i a b, l[i]? = some a → l[i + 1]? = some b → R a b = true
  | [] => by simp [chain]
  | [a] => by simp [chain]
  | a :: b :: r => by
    simp only [chain, Bool.and_eq_true]
    rw [chain_iff (l := b :: r)]
    constructor
    · rintro ⟨h1, h2⟩ i x y hx hy
      match i, hx, hy with
      | 0, hx, hy => simp at hx hy; subst hx; subst hy; exact h1
      | i + 1, hx, hy => exact h2 i x y (by simpa using hx) (by simpa using hy)
    · intro h
      exact ⟨h 0 a b rfl rfl, fun i x y hx hy => h (i + 1) x y (by simpa using hx) (by simpa using hy)⟩
theorem chain_not {D : Type} {R : D → D → Bool} {l : List D} {i : Nat} {a b : D} (h1 : l[i]? = some a) (h2 : l[i + 1]? = some b) (h3 : R a b = false) : chain R l = false := by
  cases h : chain R l with
  | false => rfl
  | true => have := chain_iff.1 h i a b h1 h2; rw [h3] at this; cases this
theorem chain_step {D : Type} {R : D → D → Bool} {l : List D} {k : Nat} {a b : D} (h0 : ∀ i a b, i < k → l[i]? = some a → l[i + 1]? = some b → R a b = true) (h1 : l[k]? = some a) (h2 : l[k + 1]? = some b) (h3 : R a b = true) :
    ∀ i a b, i < k + 1 → l[i]? = some a → l[i + 1]? = some b → R a b = true := by
  intro i x y hi hx hy
  by_cases e : i = k
  · subst e
    have e1 := h1.symm.trans hx
    have e2 := h2.symm.trans hy
    cases e1; cases e2
    exact h3
  · exact h0 i x y (by omega) hx hy
theorem chain_all {D : Type} {R : D → D → Bool} {l : List D} {k : Nat} (hk : l.length ≤ k + 1) (h0 : ∀ i a b, i < k → l[i]? = some a → l[i + 1]? = some b → R a b = true) : chain R l = true :=
  chain_iff.2 fun i a b hx hy => h0 i a b (by have := (List.getElem?_eq_some_iff.1 hy).1; omega) hx hy

/-- Is a text ahead of another one? -/
def ltS (a b : ByteArray) : Bool := Op.bytesLess a.toList b.toList

/-! ### record.prop, record.Check -/
def prpE (p : Prp) : Int := if nameE p.name = 0 then valE p.v else nameE p.name
def recE (r : List Prp) : Int := if 8 < r.length then 4 else if firstE prpE r = 0 then (if chain (fun a b => ltS a.name b.name) r then 0 else 7) else firstE prpE r

set_option maxHeartbeats 400000 in
theorem prop_any (p : Prp) (hp : p.ok) (w : World) :
    Calls Tryz.prog 20 #[.agg #[.string p.name, .int .i64 p.v.ty, .int .i64 p.v.n, .string p.v.s]] w fun e w' => e = .returned (errV (prpE p)) ∧ Below w.heap.size w w' := by
  obtain ⟨nm, v⟩ := p
  obtain ⟨hn, hv⟩ := hp
  have hn' : Sm nm := hn
  by_cases h : nameE nm = 0
  · have HE : Hid (errV (prpE ⟨nm, v⟩) = errV (valE v)) := by unfold prpE; rw [if_pos h]; rfl
    have hE : errV (nameE nm) = .nilIface := errV_zero h
    clear h
    go_enter Tryz.func20, Tryz.ntmps20
    go_wp2_with fail
    refine (name_any nm _ hn').mono ?_
    rintro e w1 ⟨rfl, hb1⟩
    obtain ⟨hc, hf⟩ := bcell hb1
    rw [hE]
    go_wp2_with fail
    refine (check_any v hv _).mono ?_
    rintro e w2 ⟨rfl, hb2⟩
    have hb3 : Below w.heap.size w w2 := ((((Below.refl _ _).alloc (Nat.le_refl _) _).trans (hb1.mono (by simp))).trans (hb2.mono (by have := hb1.size; simp at this; omega)))
    go_wp2_with fail
    go_ret
    exact ⟨by rw [HE.out]; rfl, hb3⟩
  · have HE : Hid (errV (prpE ⟨nm, v⟩) = .iface 74 (.int .i64 (nameE nm))) := by unfold prpE; rw [if_neg h]; exact errV_some h
    have hE : errV (nameE nm) = .iface 74 (.int .i64 (nameE nm)) := errV_some h
    clear h
    go_enter Tryz.func20, Tryz.ntmps20
    go_wp2_with fail
    refine (name_any nm _ hn').mono ?_
    rintro e w1 ⟨rfl, hb1⟩
    rw [hE]
    go_wp2_with fail
    go_ret
    exact ⟨by rw [HE.out]; rfl, ((Below.refl _ _).alloc (Nat.le_refl _) _).trans (hb1.mono (by simp))⟩

set_option maxHeartbeats 1000000 in
theorem recCheck_any (r : List Prp) (v : Value) (w : World) (hv : Sl prpL w v r) :
    Calls Tryz.prog 11 #[v] w fun e w' => e = .returned (errV (recE r)) ∧ Below w.heap.size w w' := by
  obtain ⟨A, c, rfl, hlc, hcm⟩ := hv.form
  unfold maxLen at hcm
  have HF : Hid (recE r = if 8 < r.length then 4 else if firstE prpE r = 0 then (if chain (fun a b => ltS a.name b.name) r then 0 else 7) else firstE prpE r) := rfl
  by_cases h8 : 8 < r.length
  · have HE : Hid (errV (recE r) = .iface 74 (.int .i64 4)) := by rw [HF.out, if_pos h8]; rfl
    have h8' : (8 : Int) < (r.length : Int) := by omega
    go_enter Tryz.func11, Tryz.ntmps11
    go_wp2_with fail
    go_ret
    exact ⟨by rw [HE.out]; rfl, Below.refl _ _⟩
  have h8' : decide ((8 : Int) < (r.length : Int)) = false := by simp; omega
  have h8'' : (r.length : Int) ≤ 8 := by omega
  go_enter Tryz.func11, Tryz.ntmps11
  go_wp2_with fail
  go_loopw [13] (fun i wr => ∃ k : Nat, k ≤ r.length ∧ i = .int .i64 k ∧ Below w.heap.size w wr ∧ Hid (∀ j x, j < k → r[j]? = some x → prpE x = 0)) (fun i _ => r.length - (intOf i).toNat)
  case atStart => exact ⟨0, Nat.zero_le _, rfl, Below.refl _ _, fun j x hj => absurd hj (Nat.not_lt_zero _)⟩
  case round =>
    obtain ⟨k, hk, rfl, hb, HA⟩ := hrel
    by_cases hlt : k < r.length
    · obtain ⟨d, hd⟩ : ∃ d, r[k]? = some d := ⟨_, List.getElem?_eq_getElem hlt⟩
      obtain ⟨b, o, rfl, hok, x0, x1, x2, x3⟩ := prp_at (hv.below hb) hd
      have HD : Hid (r[k]? = some d) := hd
      clear hd hv
      by_cases hz : prpE d = 0
      · have hE : errV (prpE d) = .nilIface := errV_zero hz
        have HZ : Hid (prpE d = 0) := hz
        clear hz
        go_wp2_with fail
        refine (prop_any d hok _).mono ?_
        rintro e w1 ⟨rfl, hb1⟩
        rw [hE]
        have hb2 : Below w.heap.size w w1 := (hb.alloc hb.size _).trans (hb1.mono (by have := hb.size; simp; omega))
        go_wp2_with fail
        go_roundw
        case rel => exact ⟨k + 1, by omega, by go_num, hb2, zero_step HA.out HD.out HZ.out⟩
        case measure => simp [intOf]; omega
      · have hE : errV (prpE d) = .iface 74 (.int .i64 (prpE d)) := errV_some hz
        have HE : Hid (errV (recE r) = .iface 74 (.int .i64 (prpE d))) := by
          have := firstE_hit HA.out HD.out hz
          rw [HF.out, if_neg h8, this, if_neg hz]; exact hE
        clear hz
        go_wp2_with fail
        refine (prop_any d hok _).mono ?_
        rintro e w1 ⟨rfl, hb1⟩
        rw [hE]
        have hb2 : Below w.heap.size w w1 := (hb.alloc hb.size _).trans (hb1.mono (by have := hb.size; simp; omega))
        go_wp2_with fail
        go_ret
        exact ⟨by rw [HE.out]; rfl, hb2⟩
    · have hkl : k = r.length := by omega
      subst hkl
      have HG : Hid (recE r = if chain (fun a b => ltS a.name b.name) r then 0 else 7) := by
        rw [HF.out, if_neg h8, if_pos (firstE_none HA.out)]; rfl
      clear HF HA
      obtain ⟨wo, rfl⟩ : ∃ wo : World, wo = wr := ⟨_, rfl⟩
      go_wp2_with fail
      go_loopw [6] (fun i wr => ∃ k : Nat, (k = 0 ∨ k < r.length) ∧ i = .int .i64 ((k : Int) + 1) ∧ Below w.heap.size w wr ∧ Hid (∀ i a b, i < k → r[i]? = some a → r[i + 1]? = some b → ltS a.name b.name = true)) (fun i _ => r.length + 1 - (intOf i).toNat)
      case atStart => exact ⟨0, Or.inl rfl, rfl, hb, fun j _ _ hj => absurd hj (Nat.not_lt_zero _)⟩
      case round =>
        obtain ⟨k, hk, rfl, hb, HA⟩ := hrel
        by_cases hlt : k + 1 < r.length
        · obtain ⟨d, hd⟩ : ∃ d, r[k]? = some d := ⟨_, List.getElem?_eq_getElem (by omega)⟩
          obtain ⟨d', hd'⟩ : ∃ d, r[k + 1]? = some d := ⟨_, List.getElem?_eq_getElem hlt⟩
          obtain ⟨b, o, rfl, hall⟩ := prp_all (hv.below hb) (by omega)
          obtain ⟨_, x0, _⟩ := hall _ _ hd
          obtain ⟨_, y0, _⟩ := hall _ _ hd'
          clear hall
          have hlt' : (k : Int) + 1 < (r.length : Int) := by omega
          have HD : Hid (r[k]? = some d) := hd
          have HD' : Hid (r[k + 1]? = some d') := hd'
          clear hd hd' hv
          cases hR : ltS d.name d'.name with
          | true =>
            have hR' : Op.bytesLess d.name.toList d'.name.toList = true := hR
            have HR : Hid (ltS d.name d'.name = true) := hR
            clear hR
            go_wp2_with fail
            go_quiet (fail)
            go_wp2_with fail
            go_roundw
            case rel => exact ⟨k + 1, by omega, by go_num, below_drewN hb _, chain_step HA.out HD.out HD'.out HR.out⟩
            case measure => simp [intOf]; omega
          | false =>
            have hR' : Op.bytesLess d.name.toList d'.name.toList = false := hR
            have HE : Hid (errV (recE r) = .iface 74 (.int .i64 7)) := by
              rw [HG.out, chain_not HD.out HD'.out hR]; rfl
            clear hR
            go_wp2_with fail
            go_quiet (fail)
            go_wp2_with fail
            go_ret
            exact ⟨by rw [HE.out]; rfl, below_drewN hb _⟩
        · have hlt' : (r.length : Int) ≤ (k : Int) + 1 := by omega
          have HE : Hid (errV (recE r) = .nilIface) := by
            rw [HG.out, chain_all (by omega) HA.out]; rfl
          clear hv
          go_wp2_with fail
          go_ret
          exact ⟨by rw [HE.out]; rfl, hb⟩
end Go.Proofs.YtmbeeaohidgfgaaGreatDoor
