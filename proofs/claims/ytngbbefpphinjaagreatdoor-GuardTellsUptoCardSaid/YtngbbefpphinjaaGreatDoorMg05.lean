/- Parts: FindA, FindB, GrC, DelT, Cmp, TieP, InsB. -/
import Derived.Test.YtngbbefpphinjaaGreatDoorMg04
import Derived.Test.YtngbbefpphinjaaGreatDoorMg03
import Derived.Test.YtngbbefpphinjaaGreatDoorMg02
import Derived.Test.YtngbbefpphinjaaGreatDoorRows
import Derived.Maps.RangeWalk
/- Contracts: slices.BinarySearchFunc over nodes and properties, graph.Find, record.Find. -/
namespace Go.Proofs.YtngbbefpphinjaaGreatDoor
open Go.RowKit
def CmpB {D : Type} (P : Program) (g : Nat) (caps : Array Value) (V : World -> D -> Value -> Prop) (tv : Value) (c : D -> Int) (w : World) : Prop :=
 ∀ x u wx, Below w.heap.size w wx -> V wx x u -> Calls P g (#[u, tv] ++ caps) wx (fun e w' => e = .returned (.int .i64 (c x)) /\ Below wx.heap.size wx w')
def eqAt {D : Type} (c : D -> Int) (l : List D) (pos : Nat) : Bool := match l[pos]? with | some d => c d == 0 | none => false
def nodV (w : World) (d : Nod) (u : Value) : Prop := ∃ v, u = .agg #[.int .i64 d.id, .string d.kind, v] /\ I64 d.id /\ Sm d.kind /\ Sl prpL w v d.props
def prpV (_ : World) (d : Prp) (u : Value) : Prop := u = .agg #[.string d.name, .int .i64 d.v.ty, .int .i64 d.v.n, .string d.v.s] /\ d.ok
set_option maxHeartbeats 2000000 in
theorem bs_nod (g : Nat) (caps : Array Value) (eg : ∀ args w, (callFunc g args).run Tryz.prog w = .ok (.enter g args) w) (tv : Value) (c : Nod -> Int) (l : List Nod) (v : Value) (w : World) (hv : Sl nodL w v l)
 (hp : CmpB Tryz.prog g caps nodV tv c w) (pos : Nat) (hlen : l.length <= 1000) (hpos : pos <= l.length) (h1 : ∀ i d, i < pos -> l[i]? = some d -> c d < 0) (h2 : ∀ i d, pos <= i -> l[i]? = some d -> 0 <= c d) :
 Calls Tryz.prog 142 #[v, tv, .func (.func g) #[] caps] w fun e w' => e = .returned (.tuple #[.int .i64 pos, .bool (eqAt c l pos)]) /\ Below w.heap.size w w' := by
 obtain ⟨A, cp, rfl, hlc, hcm⟩ := hv.form
 have hcm' : l.length <= 9223372036854775807 := by unfold maxLen at hcm; omega
 clear hcm hlc hcm'
 have P1 := Lib.hid h1
 have P2 := Lib.hid h2
 clear h1 h2
 go_enter Tryz.func142, Tryz.ntmps142
 go_wp2_with fail
 go_loopw [9, 10] (fun i j wr => ∃ lo hi : Nat, lo <= pos /\ pos <= hi /\ hi <= l.length /\ i = .int .i64 lo /\ j = .int .i64 hi /\ Below w.heap.size w wr) (fun i j _ => (intOf j).toNat - (intOf i).toNat)
 case atStart => exact ⟨0, l.length, Nat.zero_le _, hpos, Nat.le_refl _, rfl, rfl, Below.refl _ _⟩
 obtain ⟨lo, hi, hlo, hhi, hhl, rfl, rfl, hb⟩ := hrel
 by_cases hlt : lo < hi
 ·obtain ⟨d, hd⟩ : ∃ d, l[(lo + hi) / 2]? = some d := ⟨_, List.getElem?_eq_getElem (by omega)⟩
  have HD : Hid (l[(lo + hi) / 2]? = some d) := hd
  obtain ⟨b, o, rfl, u, hid, hkd, hpr, x0, x1, x2⟩ := nod_at (hv.below hb) hd
  obtain ⟨Ar, cr, rfl, _, _⟩ := hpr.form
  have hcall := hp d _ wr hb ⟨_, rfl, hid, hkd, hpr⟩
  clear hpr
  clear hd hp hv
  have hm1 : (lo + hi) / 2 < hi := by omega
  have hm2 : lo <= (lo + hi) / 2 := by omega
  by_cases hc : c d < 0
  ·have hmp : (lo + hi) / 2 < pos := by
    rcases Nat.lt_or_ge ((lo + hi) / 2) pos with h | h
    ·exact h
    have := P2.out _ _ h HD.out; omega
   go_wp2_with (go_at_fn g; refine hcall.mono ?_; rintro e w' ⟨rfl, hb2⟩)
   go_roundw
   case rel => exact ⟨(lo + hi) / 2 + 1, hi, by omega, hhi, hhl, by go_num, rfl, hb.trans (hb2.mono hb.size)⟩
   case measure => simp [intOf]; omega
  have hmp : pos <= (lo + hi) / 2 := by
   rcases Nat.lt_or_ge ((lo + hi) / 2) pos with h | h
   ·have := P1.out _ _ h HD.out; omega
   exact h
  have hc' : 0 <= c d := by omega
  go_wp2_with (go_at_fn g; refine hcall.mono ?_; rintro e w' ⟨rfl, hb2⟩)
  go_roundw
  case rel => exact ⟨lo, (lo + hi) / 2, hlo, by omega, by omega, rfl, by go_num, hb.trans (hb2.mono hb.size)⟩
  case measure => simp [intOf]; omega
 obtain rfl : lo = hi := by omega
 obtain rfl : lo = pos := by omega
 by_cases hl : lo < l.length
 ·obtain ⟨d, hd⟩ : ∃ d, l[lo]? = some d := ⟨_, List.getElem?_eq_getElem hl⟩
  have HE : Hid (eqAt c l lo = (c d == 0)) := by unfold eqAt; rw [hd]; rfl
  have hl' : (lo : Int) < (l.length : Int) := by omega
  have hl2 : decide ((lo : Int) < (l.length : Int)) = true := by simpa using hl
  obtain ⟨b, o, rfl, u, hid, hkd, hpr, x0, x1, x2⟩ := nod_at (hv.below hb) hd
  obtain ⟨Ar, cr, rfl, _, _⟩ := hpr.form
  have hcall := hp d _ wr hb ⟨_, rfl, hid, hkd, hpr⟩
  clear hpr
  clear hd hp hv
  go_wp2_with (go_at_fn g; refine hcall.mono ?_; rintro e w' ⟨rfl, hb2⟩)
  go_ret2
  exact ⟨by rw [HE.out]; rfl, hb.trans (hb2.mono hb.size)⟩
 have HE : Hid (eqAt c l lo = false) := by unfold eqAt; rw [List.getElem?_eq_none (by omega)]; rfl
 have hl2 : decide ((lo : Int) < (l.length : Int)) = false := by simp; omega
 have hl3 : (l.length : Int) <= (lo : Int) := by omega
 clear hp hv
 go_wp2_with fail
 go_ret2
 exact ⟨by rw [HE.out]; rfl, hb⟩
set_option maxHeartbeats 2000000 in
theorem bs_prp (g : Nat) (caps : Array Value) (eg : ∀ args w, (callFunc g args).run Tryz.prog w = .ok (.enter g args) w) (tv : Value) (c : Prp -> Int) (l : List Prp) (v : Value) (w : World) (hv : Sl prpL w v l)
 (hp : CmpB Tryz.prog g caps prpV tv c w) (pos : Nat) (hlen : l.length <= 1000) (hpos : pos <= l.length) (h1 : ∀ i d, i < pos -> l[i]? = some d -> c d < 0) (h2 : ∀ i d, pos <= i -> l[i]? = some d -> 0 <= c d) :
 Calls Tryz.prog 145 #[v, tv, .func (.func g) #[] caps] w fun e w' => e = .returned (.tuple #[.int .i64 pos, .bool (eqAt c l pos)]) /\ Below w.heap.size w w' := by
 obtain ⟨A, cp, rfl, hlc, hcm⟩ := hv.form
 have hcm' : l.length <= 9223372036854775807 := by unfold maxLen at hcm; omega
 clear hcm hlc hcm'
 have P1 := Lib.hid h1
 have P2 := Lib.hid h2
 clear h1 h2
 go_enter Tryz.func145, Tryz.ntmps145
 go_wp2_with fail
 go_loopw [9, 10] (fun i j wr => ∃ lo hi : Nat, lo <= pos /\ pos <= hi /\ hi <= l.length /\ i = .int .i64 lo /\ j = .int .i64 hi /\ Below w.heap.size w wr) (fun i j _ => (intOf j).toNat - (intOf i).toNat)
 case atStart => exact ⟨0, l.length, Nat.zero_le _, hpos, Nat.le_refl _, rfl, rfl, Below.refl _ _⟩
 obtain ⟨lo, hi, hlo, hhi, hhl, rfl, rfl, hb⟩ := hrel
 by_cases hlt : lo < hi
 ·obtain ⟨d, hd⟩ : ∃ d, l[(lo + hi) / 2]? = some d := ⟨_, List.getElem?_eq_getElem (by omega)⟩
  have HD : Hid (l[(lo + hi) / 2]? = some d) := hd
  obtain ⟨b, o, rfl, hok, x0, x1, x2, x3⟩ := prp_at (hv.below hb) hd
  have hcall := hp d _ wr hb ⟨rfl, hok⟩
  clear hd hp hv
  have hm1 : (lo + hi) / 2 < hi := by omega
  have hm2 : lo <= (lo + hi) / 2 := by omega
  by_cases hc : c d < 0
  ·have hmp : (lo + hi) / 2 < pos := by
    rcases Nat.lt_or_ge ((lo + hi) / 2) pos with h | h
    ·exact h
    have := P2.out _ _ h HD.out; omega
   go_wp2_with (go_at_fn g; refine hcall.mono ?_; rintro e w' ⟨rfl, hb2⟩)
   go_roundw
   case rel => exact ⟨(lo + hi) / 2 + 1, hi, by omega, hhi, hhl, by go_num, rfl, hb.trans (hb2.mono hb.size)⟩
   case measure => simp [intOf]; omega
  have hmp : pos <= (lo + hi) / 2 := by
   rcases Nat.lt_or_ge ((lo + hi) / 2) pos with h | h
   ·have := P1.out _ _ h HD.out; omega
   exact h
  have hc' : 0 <= c d := by omega
  go_wp2_with (go_at_fn g; refine hcall.mono ?_; rintro e w' ⟨rfl, hb2⟩)
  go_roundw
  case rel => exact ⟨lo, (lo + hi) / 2, hlo, by omega, by omega, rfl, by go_num, hb.trans (hb2.mono hb.size)⟩
  case measure => simp [intOf]; omega
 obtain rfl : lo = hi := by omega
 obtain rfl : lo = pos := by omega
 by_cases hl : lo < l.length
 ·obtain ⟨d, hd⟩ : ∃ d, l[lo]? = some d := ⟨_, List.getElem?_eq_getElem hl⟩
  have HE : Hid (eqAt c l lo = (c d == 0)) := by unfold eqAt; rw [hd]; rfl
  have hl' : (lo : Int) < (l.length : Int) := by omega
  have hl2 : decide ((lo : Int) < (l.length : Int)) = true := by simpa using hl
  obtain ⟨b, o, rfl, hok, x0, x1, x2, x3⟩ := prp_at (hv.below hb) hd
  have hcall := hp d _ wr hb ⟨rfl, hok⟩
  clear hd hp hv
  go_wp2_with (go_at_fn g; refine hcall.mono ?_; rintro e w' ⟨rfl, hb2⟩)
  go_ret2
  exact ⟨by rw [HE.out]; rfl, hb.trans (hb2.mono hb.size)⟩
 have HE : Hid (eqAt c l lo = false) := by unfold eqAt; rw [List.getElem?_eq_none (by omega)]; rfl
 have hl2 : decide ((lo : Int) < (l.length : Int)) = false := by simp; omega
 have hl3 : (l.length : Int) <= (lo : Int) := by omega
 clear hp hv
 go_wp2_with fail
 go_ret2
 exact ⟨by rw [HE.out]; rfl, hb⟩
def lowI {D : Type} (c : D -> Int) (l : List D) : Nat := l.findIdx (fun d => decide (0 <= c d))
theorem lowI_le {D : Type} (c : D -> Int) (l : List D) : lowI c l <= l.length := List.findIdx_le_length
theorem low_lt {D : Type} {c : D -> Int} {l : List D} {i : Nat} {d : D} (h : i < lowI c l) (hi : l[i]? = some d) : c d < 0 := by
 obtain ⟨hl, rfl⟩ := List.getElem?_eq_some_iff.1 hi
 have := List.not_of_lt_findIdx h
 simp at this
 omega
theorem low_ge {D : Type} {R : D -> D -> Bool} {c : D -> Int} {l : List D} (hc : chain R l = true) (mono : ∀ a b, R a b = true -> 0 <= c a -> 0 <= c b) :
 ∀ {i : Nat} {d : D}, lowI c l <= i -> l[i]? = some d -> 0 <= c d := by
 intro i
 induction i with
 | zero =>
  intro d h hi
  obtain ⟨hl, rfl⟩ := List.getElem?_eq_some_iff.1 hi
  have h0 : lowI c l = 0 := by omega
  have := List.findIdx_getElem (xs := l) (p := fun d => decide (0 <= c d)) (w := by show lowI c l < _; omega)
  simp only [decide_eq_true_eq] at this
  have e : List.findIdx (fun d => decide (0 <= c d)) l = 0 := h0
  simp only [e] at this
  exact this
 | succ i ih =>
  intro d h hi
  rcases Nat.lt_or_ge i (lowI c l) with h1 | h1
  ·have h0 : lowI c l = i + 1 := by omega
   obtain ⟨hl, rfl⟩ := List.getElem?_eq_some_iff.1 hi
   have := List.findIdx_getElem (xs := l) (p := fun d => decide (0 <= c d)) (w := by show lowI c l < _; omega)
   simp only [decide_eq_true_eq] at this
   have e : List.findIdx (fun d => decide (0 <= c d)) l = i + 1 := h0
   simp only [e] at this
   exact this
  have hl : i < l.length := by have := (List.getElem?_eq_some_iff.1 hi).1; omega
  have h2 := ih (d := l[i]) h1 (List.getElem?_eq_getElem hl)
  exact mono _ _ (chain_iff.1 hc i _ _ (List.getElem?_eq_getElem hl) hi) h2
/-! ### Nodes by number -/
def nodLt (a b : Nod) : Bool := decide (a.id < b.id)
def nodC (id : Int) (n : Nod) : Int := cmpI n.id id
def fpos (l : List Nod) (id : Int) : Nat := lowI (nodC id) l
def fhas (l : List Nod) (id : Int) : Bool := eqAt (nodC id) l (fpos l id)
theorem cmpI_neg {a b : Int} : cmpI a b < 0 ↔ a < b := by unfold cmpI; split <;> (try split) <;> omega
theorem cmpI_zero {a b : Int} : cmpI a b = 0 ↔ a = b := by unfold cmpI; split <;> (try split) <;> omega
theorem nodC_mono (id : Int) : ∀ a b, nodLt a b = true -> 0 <= nodC id a -> 0 <= nodC id b := by
 intro a b h h1
 unfold nodLt at h
 simp at h
 unfold nodC at h1 ⊢
 have := @cmpI_neg a.id id
 have := @cmpI_neg b.id id
 omega
theorem find1_any (d : Nod) (id : Int) (u : Value) (w : World) (hu : nodV w d u) :
 Calls Tryz.prog 143 #[u, .int .i64 id] w fun e w' => e = .returned (.int .i64 (nodC id d)) /\ Below w.heap.size w w' := by
 obtain ⟨v, rfl, h1, h2, h3⟩ := hu
 obtain ⟨A, c, rfl, _, _⟩ := h3.form
 have HE : Hid (nodC id d = cmpI d.id id) := rfl
 go_enter Tryz.func143, Tryz.ntmps143
 go_wp2_with (go_at_call 144; refine (cmp_any _ _ _).mono ?_; rintro e w' ⟨rfl, rfl⟩)
 go_ret
 exact ⟨by rw [HE.out]; rfl, (Below.refl _ _).alloc (Nat.le_refl _) _⟩
theorem find_any (g : Grf) (vn vt : Value) (w : World) (hg : GrfR w vn vt g) (id : Int) (hc : chain nodLt g.nodes = true) (hl : g.nodes.length <= 1000) :
 Calls Tryz.prog 89 #[.agg #[vn, vt], .int .i64 id] w fun e w' => e = .returned (.tuple #[.int .i64 (fpos g.nodes id), .bool (fhas g.nodes id)]) /\ Below w.heap.size w w' := by
 obtain ⟨hn, ht⟩ := hg
 obtain ⟨A, c, rfl, _, _⟩ := hn.form
 obtain ⟨A', c', rfl, _, _⟩ := ht.form
 have hb0 : Below w.heap.size w (w.alloc (.cells #[.slice A g.nodes.length c, .slice A' g.ties.length c'] 25)) := (Below.refl _ _).alloc (Nat.le_refl _) _
 have hcall := bs_nod 143 #[] (by intro args w; kernel_rfl) (.int .i64 id) (nodC id) g.nodes _ _ (hn.below hb0) (fun x u wx _ hu => find1_any x id u wx hu) (fpos g.nodes id) hl (lowI_le _ _)
  (fun i d h hi => low_lt h hi) (fun i d h hi => low_ge hc (nodC_mono id) h hi)
 have HE : Hid (fhas g.nodes id = eqAt (nodC id) g.nodes (fpos g.nodes id)) := rfl
 clear hn ht hc
 generalize eqAt (nodC id) g.nodes (fpos g.nodes id) = B at hcall HE
 generalize fpos g.nodes id = K at hcall HE
 go_enter Tryz.func89, Tryz.ntmps89
 go_wp2_with (go_at_call 142; refine hcall.mono ?_; rintro e w' ⟨rfl, hb⟩)
 go_ret2
 exact ⟨by rw [HE.out]; rfl, hb0.trans (hb.mono hb0.size)⟩
/-! ### Properties by name -/
def prpLt (a b : Prp) : Bool := ltS a.name b.name
def prpC (nm : ByteArray) (p : Prp) : Int := cmpS p.name nm
def rpos (l : List Prp) (nm : ByteArray) : Nat := lowI (prpC nm) l
def rhas (l : List Prp) (nm : ByteArray) : Bool := eqAt (prpC nm) l (rpos l nm)
/-! ### What a right graph gives -/
theorem nodsE_step {p : Option Nod} {n : Nod} {r : List Nod} (h : nodsE p (n :: r) = 0) : idB n.id = true /\ nodE n = 0 /\ nodsE (some n) r = 0 /\ (∀ a, p = some a -> nodLt a n = true) := by
 have h1 : idB n.id = true := by
  cases h1 : idB n.id with
  | true => rfl
  | false => unfold nodsE at h; rw [if_pos h1] at h; cases h
 have key : ∀ b : Bool, (if b = true then (7 : Int) else if nodE n = 0 then nodsE (some n) r else nodE n) = 0 -> b = false /\ nodE n = 0 /\ nodsE (some n) r = 0 := by
  intro b hb
  cases b with
  | true => cases hb
  | false =>
   simp only [Bool.false_eq_true, if_false] at hb
   by_cases h3 : nodE n = 0
   ·rw [if_pos h3] at hb; exact ⟨rfl, h3, hb⟩
   rw [if_neg h3] at hb; exact absurd hb h3
 have hid : ¬ (idB n.id = false) := by simp [h1]
 cases p with
 | none =>
  unfold nodsE at h
  rw [if_neg hid] at h
  obtain ⟨_, k2, k3⟩ := key false h
  exact ⟨h1, k2, k3, fun a ha => by cases ha⟩
 | some q =>
  unfold nodsE at h
  rw [if_neg hid] at h
  obtain ⟨k1, k2, k3⟩ := key (decide (n.id <= q.id)) h
  refine ⟨h1, k2, k3, fun a ha => ?_⟩
  cases ha
  unfold nodLt
  simpa using k1
theorem nodsE_zero : ∀ {l : List Nod} {p : Option Nod}, nodsE p l = 0 -> (∀ n ∈ l, idB n.id = true /\ nodE n = 0) /\ chain nodLt l = true /\ (∀ a b, p = some a -> l.head? = some b -> nodLt a b = true)
 | [], p, _ => ⟨by simp, rfl, by simp⟩
 | n :: r, p, h => by
  obtain ⟨s1, s2, s3, s4⟩ := nodsE_step h
  obtain ⟨i1, i2, i3⟩ := nodsE_zero s3
  refine ⟨?_, ?_, ?_⟩
  ·intro m hm
   rcases List.mem_cons.1 hm with rfl | hm
   ·exact ⟨s1, s2⟩
   exact i1 m hm
  ·cases r with
   | nil => rfl
   | cons b r => simp only [chain, Bool.and_eq_true]; exact ⟨i3 n b rfl rfl, i2⟩
  intro a b ha hb
  simp at hb
  subst hb
  exact s4 a ha
theorem grf_ok {g : Grf} (h : grfE g = 0) : g.nodes.length <= 60 /\ g.ties.length <= 120 /\ chain nodLt g.nodes = true /\ ∀ n ∈ g.nodes, idB n.id = true /\ nodE n = 0 := by
 unfold grfE at h
 by_cases h1 : 60 < g.nodes.length \/ 120 < g.ties.length
 ·rw [if_pos h1] at h; cases h
 rw [if_neg h1] at h
 by_cases h2 : nodsE none g.nodes = 0
 ·obtain ⟨i1, i2, _⟩ := nodsE_zero h2
  exact ⟨by omega, by omega, i2, i1⟩
 rw [if_neg h2] at h; exact absurd h h2
theorem fhas_some' {l : List Nod} {id : Int} (h : fhas l id = true) : ∃ n, l[fpos l id]? = some n := by
 unfold fhas eqAt at h
 cases hd : l[fpos l id]? with
 | none => rw [hd] at h; simp at h
 | some d => exact ⟨d, rfl⟩
open Go Go.RowKit
def tieAg (_ : World) (d : Tie) (u : Value) : Prop := u = .agg #[.string d.bond, .int .i64 d.src, .int .i64 d.dst] /\ d.ok
set_option maxHeartbeats 400000 in
theorem idx_ties (g : Nat) (caps : Array Value) (eg : ∀ args w, (callFunc g args).run Tryz.prog w = .ok (.enter g args) w) (p : Tie -> Bool) (l : List (Tie)) (v : Value) (w : World) (hv : Sl tieL w v l)
 (hp : PredB Tryz.prog g caps tieAg p w) :
 Calls Tryz.prog 200 #[v, .func (.func g) #[] caps] w fun e w' => e = .returned (.int .i64 (idxI p l)) /\ Below w.heap.size w w' := by
 obtain ⟨A, c, rfl, hlc, hcm⟩ := hv.form
 unfold maxLen at hcm
 go_enter Tryz.func200, Tryz.ntmps200
 go_wp2_with fail
 go_loopw [8] (fun i wr => ∃ k : Nat, k <= l.length /\ i = .int .i64 k /\ Below w.heap.size w wr /\ Hid (∀ j x, j < k -> l[j]? = some x -> p x = false)) (fun i _ => l.length - (intOf i).toNat)
 case atStart => exact ⟨0, Nat.zero_le _, rfl, Below.refl _ _, fun j x hj => absurd hj (Nat.not_lt_zero _)⟩
 obtain ⟨k, hk, rfl, hb, HA⟩ := hrel
 by_cases hlt : k < l.length
 ·obtain ⟨d, hd⟩ : ∃ d, l[k]? = some d := ⟨_, List.getElem?_eq_getElem hlt⟩
  obtain ⟨b, o, rfl, hsm, x0, x1, x2⟩ := tie_at (hv.below hb) hd
  have hcall := hp d _ wr hb ⟨rfl, hsm⟩
  have HD : Hid (l[k]? = some d) := hd
  clear hd hp hv
  cases hq : p d with
  | true =>
   rw [hq] at hcall
   have HQ : Hid (p d = true) := hq
   clear hq
   go_wp2_with (go_at_fn g; refine hcall.mono ?_; rintro e w' ⟨rfl, hb2⟩)
   go_ret
   exact ⟨ret_int (idxI_hit HA.out HD.out HQ.out).symm, hb.trans (hb2.mono hb.size)⟩
  | false =>
   rw [hq] at hcall
   have HQ : Hid (p d = false) := hq
   clear hq
   go_wp2_with (go_at_fn g; refine hcall.mono ?_; rintro e w' ⟨rfl, hb2⟩)
   go_roundw
   case rel => exact ⟨k + 1, by omega, by go_num, hb.trans (hb2.mono hb.size), miss_step HA.out HD.out HQ.out⟩
   case measure => simp [intOf]; omega
 have hkl : k = l.length := by omega
 subst hkl
 clear hp hv
 go_wp2_with fail
 go_ret
 exact ⟨ret_int (idxI_miss HA.out).symm, hb⟩
theorem del_ties_info : (Tryz.prog.info? 35).map (fun i => (i.zero, i.size, i.bytes)) = some (some (.agg #[.string .empty, .int .i64 0, .int .i64 0]), 3, 32) := by kernel_rfl
set_option maxRecDepth 100000 in
set_option maxHeartbeats 4000000 in
theorem del_ties_g (g : Nat) (caps : Array Value) (eg : ∀ args w, (callFunc g args).run Tryz.prog w = .ok (.enter g args) w) (p : Tie -> Bool) (l : List Tie) (v : Value) (B : Nat) (w : World) (_hB : B <= w.heap.size)
 (hown : Own w B 35 3 v l.length (l.flatMap Tie.enc)) (hok : ∀ x ∈ l, x.ok) (hl : l.length <= 1000) (hp : PredG Tryz.prog g caps (fun d u => u = (.agg #[.string d.bond, .int .i64 d.src, .int .i64 d.dst]) /\ d.ok) p v.ownBlock w) :
 Calls Tryz.prog 155 #[v, .func (.func g) #[] caps] w fun e w' => ∃ u, e = .returned u /\ Own w' B 35 3 u (l.filter fun x => !p x).length ((l.filter fun x => !p x).flatMap Tie.enc) /\ w.grownBy w' v.ownBlock /\ u.ownBlock = v.ownBlock := by
 obtain ⟨i0, ei, ez, ez1, ez2⟩ := info_parts del_ties_info
 have hidx := idx_ties g caps eg p l _ w (hown.ties hok) (fun x u wx hb hu => hp x u wx (grownBy_below hb _) hu)
 rcases idxI_cases p l with ⟨h1, h2⟩ | ⟨k0, d0, h1, h2, h3⟩
 ·rw [h1] at hidx
  obtain ⟨A, c, rfl, hlc, hcm⟩ := hown.form
  have H2 := Lib.hid h2
  have HO := Lib.hid hown
  clear h1 h2 hown hp hok
  go_enter Tryz.func155, Tryz.ntmps155
  go_wp2_with (go_at_call 200; refine hidx.mono ?_; rintro e w1 ⟨rfl, hb1⟩)
  go_ret
  exact ⟨_, rfl, by rw [H2.out]; exact HO.out.below hb1, grownBy_below hb1 _, rfl⟩
 rw [h1] at hidx
 obtain ⟨g0, o0, c, rfl, hBg, hgl⟩ := hown.addr (len_pos h2)
 obtain ⟨_, c', hv, hlc, hcm⟩ := hown.form
 injection hv with hvA hvL hvC
 subst hvC; subst hvA
 clear hvL
 unfold maxLen at hcm
 have HK0 := Lib.hid h3
 have hk0l := (List.getElem?_eq_some_iff.1 h2).1
 have HP := Lib.hid hp
 have HOK := Lib.hid hok
 have HO := Lib.hid hown
 have hkl : (k0 : Int) + 1 <= (l.length : Int) := by omega
 have hl2 : (l.length : Int) <= 1000 := by omega
 have hne : ((k0 : Int) == -1) = false := beq_eq_false_iff_ne.2 (by omega)
 have hown' : Own w B 35 3 (.slice (some ⟨g0, o0, none⟩) l.length c) l.length (l.flatMap Tie.enc) := hown
 clear h1 h2 h3 hown hp hok
 go_enter Tryz.func155, Tryz.ntmps155
 go_wp2_with (go_at_call 200; refine hidx.mono ?_; rintro e w1 ⟨rfl, hb1⟩)
 have ho1 := hown'.below hb1
 have hgb1 : w.grownBy w1 (some g0) := grownBy_below hb1 _
 clear hidx hown'
 go_loopw [5, 6] (fun i j wr => ∃ (a b : Nat) (dk : List Tie), i = .int .i64 a /\ j = .int .i64 b /\ a < b /\ b <= l.length /\ Own wr B 35 3 (.slice (some ⟨g0, o0, none⟩) l.length c) l.length (dk.flatMap Tie.enc) /\ w.grownBy wr (some g0) /\ Hid (Kept p l dk b a)) (fun _ j _ => l.length - (intOf j).toNat)
 case atStart => exact ⟨k0, k0 + 1, l, rfl, by go_num, by omega, by omega, ho1, hgb1, HK0.out⟩
 clear ho1 hgb1
 obtain ⟨a, b, dk, rfl, rfl, hab, hbl, hO, hgr, HK⟩ := hrel
 have hdl := HK.out.len
 have hal : (a : Int) < (l.length : Int) := by omega
 have hgrs := hgr.size
 by_cases hlt : b < l.length
 ·obtain ⟨d, hd⟩ : ∃ d, l[b]? = some d := ⟨_, List.getElem?_eq_getElem hlt⟩
  obtain ⟨q, hq⟩ : ∃ q, dk[a]? = some q := ⟨_, List.getElem?_eq_getElem (by omega)⟩
  have hdk : dk[b]? = some d := (HK.out.at hlt).trans hd
  have hlt' : (b : Int) < (l.length : Int) := by omega
  have x0 : wr.cell? ⟨g0, o0 + b * 3, none⟩ = some (.string d.bond) := hO.cell (j := b * 3 + 0) rfl (flat_get (j := 0) Tie.enc_len hdk rfl)
  have x1 : wr.cell? ⟨g0, o0 + b * 3 + 1, none⟩ = some (.int .i64 d.src) := hO.cell (j := b * 3 + 1) rfl (flat_get (j := 1) Tie.enc_len hdk rfl)
  have x2 : wr.cell? ⟨g0, o0 + b * 3 + 2, none⟩ = some (.int .i64 d.dst) := hO.cell (j := b * 3 + 2) rfl (flat_get (j := 2) Tie.enc_len hdk rfl)
  obtain ⟨z0, z1, z2⟩ := cell_box3 wr (.string d.bond) (.int .i64 d.src) (.int .i64 d.dst) 35
  have hbx : Below wr.heap.size wr (wr.alloc (.cells #[.string d.bond, .int .i64 d.src, .int .i64 d.dst] 35)) := (Below.refl _ _).alloc (Nat.le_refl _) _
  have hOx := hO.below hbx
  have hgx : w.grownBy (wr.alloc (.cells #[.string d.bond, .int .i64 d.src, .int .i64 d.dst] 35)) (some g0) := hgr.trans (grownBy_below hbx _)
  have hcall := HP.out d (.agg #[.string d.bond, .int .i64 d.src, .int .i64 d.dst]) (wr.alloc (.cells #[.string d.bond, .int .i64 d.src, .int .i64 d.dst] 35)) hgx ⟨rfl, HOK.out d (List.mem_of_getElem? hd)⟩
  have HD := Lib.hid hd
  clear hd hdk hO hgr
  cases hpd : p d with
  | true =>
   rw [hpd] at hcall
   have HN := Lib.hid (HK.out.skip HD.out hpd)
   clear hpd hq
   go_wp2_with (go_at_fn g; refine hcall.mono ?_; rintro e w2 ⟨rfl, hb2⟩)
   have hO2 := hOx.below hb2
   have hg2 := hgx.trans (grownBy_below hb2 (some g0))
   clear hcall hb2 hOx hgx x0 x1 x2 z0 z1 z2
   go_roundw
   case rel => exact ⟨a, b + 1, dk, rfl, by go_num, by omega, by omega, hO2, hg2, HN⟩
   case measure => simp [intOf]; omega
  | false =>
   rw [hpd] at hcall
   have HN := Lib.hid (HK.out.keep HD.out hpd)
   clear hpd
   go_wp2_with (
    (go_at_fn g
     refine hcall.mono ?_
     rintro e w2 ⟨rfl, hb2⟩
     have hO2 := hOx.below hb2
     have hg2 := hgx.trans (grownBy_below hb2 (some g0))
     clear hOx hgx
     have y0 : w2.cell? ⟨g0, o0 + a * 3, none⟩ = some (.string q.bond) := hO2.cell (j := a * 3 + 0) rfl (flat_get (j := 0) Tie.enc_len hq rfl)
     have y1 : w2.cell? ⟨g0, o0 + a * 3 + 1, none⟩ = some (.int .i64 q.src) := hO2.cell (j := a * 3 + 1) rfl (flat_get (j := 1) Tie.enc_len hq rfl)
     have y2 : w2.cell? ⟨g0, o0 + a * 3 + 2, none⟩ = some (.int .i64 q.dst) := hO2.cell (j := a * 3 + 2) rfl (flat_get (j := 2) Tie.enc_len hq rfl)
     have f0 : w2.frozen? ⟨g0, o0 + a * 3, none⟩ = false := hO2.frozen rfl _
     have f1 : w2.frozen? ⟨g0, o0 + a * 3 + 1, none⟩ = false := hO2.frozen rfl _
     have f2 : w2.frozen? ⟨g0, o0 + a * 3 + 2, none⟩ = false := hO2.frozen rfl _
     have b0 := cell_below hb2 z0
     have b1 := cell_below hb2 z1
     have b2 := cell_below hb2 z2
     have ho3 := (((hO2.store (a * 3) (by omega) (.string d.bond)).store (a * 3 + 1) (by omega) (.int .i64 d.src)).store (a * 3 + 2) (by omega) (.int .i64 d.dst))
     have HO3 : Hid (Own (((w2.setCell ⟨g0, o0 + a * 3, none⟩ (.string d.bond)).setCell ⟨g0, o0 + a * 3 + 1, none⟩ (.int .i64 d.src)).setCell ⟨g0, o0 + a * 3 + 2, none⟩ (.int .i64 d.dst)) B 35 3 (.slice (some ⟨g0, o0, none⟩) l.length c) l.length ((dk.set a d).flatMap Tie.enc)) := by
       rw [<- flat_set Tie.enc_len dk a d (by omega)]; exact ho3
     have HG3 : Hid (w.grownBy (((w2.setCell ⟨g0, o0 + a * 3, none⟩ (.string d.bond)).setCell ⟨g0, o0 + a * 3 + 1, none⟩ (.int .i64 d.src)).setCell ⟨g0, o0 + a * 3 + 2, none⟩ (.int .i64 d.dst)) (some g0)) := (((hg2.trans (grownBy_setCell_q _ ⟨g0, o0 + a * 3, none⟩ _)).trans (grownBy_setCell_q _ ⟨g0, o0 + a * 3 + 1, none⟩ _)).trans (grownBy_setCell_q _ ⟨g0, o0 + a * 3 + 2, none⟩ _))
     clear ho3 hO2 hg2 z0 z1 z2
     skip)
    )
   go_roundw
   case rel => exact ⟨a + 1, b + 1, dk.set a d, by go_num, by go_num, by omega, by omega, HO3.out, HG3.out, HN⟩
   case measure => simp [intOf]; omega
 obtain rfl : b = l.length := by omega
 obtain ⟨hd1, hd2⟩ := HK.out.done
 obtain ⟨w9, hr9, ho9, hg9⟩ := hO.clear (P := Tryz.prog) 23 i0 (.agg #[.string .empty, .int .i64 0, .int .i64 0]) 3 Tryz.underlying23 ei ez rfl (by kernel_rfl) (by decide) (show a < l.length by omega)
 have HG9 := Lib.hid (hgr.trans hg9)
 have HO9 : Hid (Own w9 B 35 3 (.slice (some ⟨g0, o0, none⟩) a c) (l.filter fun x => !p x).length ((l.filter fun x => !p x).flatMap Tie.enc)) := by
  unfold Hid
  rw [hd2, <- hd1, <- flat_take Tie.enc_len dk a (by omega)]
  exact ho9
 have hca : ¬ c = a := by omega
 have hac : (a : Int) <= (c : Int) := by omega
 clear hd1 hd2 ho9 hg9 hO hgr
 go_wp2_with (at_builtin; refine wpList_clear_q _ rfl (.tmp 38) _ rfl _ rfl (hr9 _ _) ?_)
 go_ret
 exact ⟨_, rfl, HO9.out, HG9.out, rfl⟩
theorem cb_zero : ∀ {a b : List UInt8}, Lib.compareBytes a b = 0 ↔ a = b
 | [], [] => by simp [Lib.compareBytes]
 | [], _ :: _ => by simp [Lib.compareBytes]
 | _ :: _, [] => by simp [Lib.compareBytes]
 | x :: a, y :: b => by
  have ih := @cb_zero a b
  rw [Lib.compareBytes]
  by_cases h1 : x < y
  ·simp [h1]; intro e; subst e; exact absurd h1 (by simp)
  by_cases h2 : y < x
  ·simp [h1, h2]; intro e; subst e; exact absurd h2 (by simp)
  have e : x = y := by
   apply UInt8.toNat_inj.1
   simp [UInt8.lt_iff_toNat_lt] at h1 h2
   omega
  subst e
  simp [h1, ih]
theorem cb_anti : ∀ (a b : List UInt8), Lib.compareBytes b a = - Lib.compareBytes a b
 | [], [] => by simp [Lib.compareBytes]
 | [], _ :: _ => by simp [Lib.compareBytes]
 | _ :: _, [] => by simp [Lib.compareBytes]
 | x :: a, y :: b => by
  have ih := cb_anti a b
  rw [Lib.compareBytes, Lib.compareBytes]
  by_cases h1 : x < y
  ·have h2 : ¬ y < x := by simp [UInt8.lt_iff_toNat_lt] at h1 ⊢; omega
   simp [h1, h2]
  by_cases h2 : y < x
  ·simp [h1, h2]
  simp [h1, h2, ih]
theorem cb_trans : ∀ {a b c : List UInt8}, Lib.compareBytes a b < 0 -> Lib.compareBytes b c < 0 -> Lib.compareBytes a c < 0
 | [], [], _, h, _ => by simp [Lib.compareBytes] at h
 | [], _ :: _, [], _, h => by simp [Lib.compareBytes] at h
 | [], _ :: _, _ :: _, _, _ => by simp [Lib.compareBytes]
 | _ :: _, [], _, h, _ => by simp [Lib.compareBytes] at h
 | _ :: _, _ :: _, [], _, h => by simp [Lib.compareBytes] at h
 | x :: a, y :: b, z :: c, h, k => by
  have ih := @cb_trans a b c
  rw [Lib.compareBytes] at h k ⊢
  simp only [UInt8.lt_iff_toNat_lt] at h k ⊢
  by_cases h1 : x.toNat < y.toNat
  ·by_cases k1 : y.toNat < z.toNat
   ·have : x.toNat < z.toNat := by omega
    simp [this]
   by_cases k2 : z.toNat < y.toNat
   ·simp [k1, k2] at k
   have : x.toNat < z.toNat := by omega
   simp [this]
  by_cases h2 : y.toNat < x.toNat
  ·simp [h1, h2] at h
  simp only [h1, h2, if_false] at h
  by_cases k1 : y.toNat < z.toNat
  ·have : x.toNat < z.toNat := by omega
   simp [this]
  by_cases k2 : z.toNat < y.toNat
  ·simp [k1, k2] at k
  simp only [k1, k2, if_false] at k
  have e1 : ¬ x.toNat < z.toNat := by omega
  have e2 : ¬ z.toNat < x.toNat := by omega
  simp only [e1, e2, if_false]
  exact ih h k
theorem cmpS_zero {a b : ByteArray} : cmpS a b = 0 ↔ a = b := by
 unfold cmpS
 rw [cb_zero]
 constructor
 ·intro h
  have := Array.toList_inj.1 h
  cases a; cases b; simp at this; rw [this]
 intro h; rw [h]
theorem cmpS_anti (a b : ByteArray) : cmpS b a = - cmpS a b := cb_anti _ _
theorem cmpS_trans {a b c : ByteArray} (h : cmpS a b < 0) (k : cmpS b c < 0) : cmpS a c < 0 := cb_trans h k
def tieLt (a b : Tie) : Bool := decide (tieO a b < 0)
def tieC (t : Tie) (d : Tie) : Int := tieO d t
def tpos (l : List Tie) (t : Tie) : Nat := lowI (tieC t) l
def thas (l : List Tie) (t : Tie) : Bool := eqAt (tieC t) l (tpos l t)
theorem tieO_neg {a b : Tie} : tieO a b < 0 ↔ cmpS a.bond b.bond < 0 \/ (a.bond = b.bond /\ (a.src < b.src \/ (a.src = b.src /\ a.dst < b.dst))) := by
 have h0 := @cmpS_zero a.bond b.bond
 have h1 := @cmpI_neg a.src b.src
 have h2 := @cmpI_zero a.src b.src
 have h3 := @cmpI_neg a.dst b.dst
 unfold tieO orI
 by_cases e1 : cmpS a.bond b.bond = 0
 ·rw [if_pos e1]
  unfold orI
  by_cases e2 : cmpI a.src b.src = 0
  ·rw [if_pos e2]
   unfold orI orI
   have e4 := h2.1 e2
   by_cases e3 : cmpI a.dst b.dst = 0
   ·rw [if_pos e3]
    have : ¬ a.dst < b.dst := fun h => by have := h3.2 h; omega
    constructor
    ·intro h; omega
    rintro (h | ⟨_, h | ⟨_, h⟩⟩) <;> omega
   rw [if_neg e3]
   constructor
   ·intro h; exact .inr ⟨h0.1 e1, .inr ⟨e4, h3.1 h⟩⟩
   rintro (h | ⟨_, h | ⟨_, h⟩⟩)
   ·omega
   ·omega
   exact h3.2 h
  rw [if_neg e2]
  constructor
  ·intro h; exact .inr ⟨h0.1 e1, .inl (h1.1 h)⟩
  rintro (h | ⟨_, h | ⟨h, _⟩⟩)
  ·omega
  ·exact h1.2 h
  exact absurd (h2.2 h) e2
 rw [if_neg e1]
 constructor
 ·intro h; exact .inl h
 rintro (h | ⟨h, _⟩)
 ·exact h
 exact absurd (h0.2 h) e1
theorem tieO_zero {a b : Tie} : tieO a b = 0 ↔ a = b := by
 have h0 := @cmpS_zero a.bond b.bond
 have h2 := @cmpI_zero a.src b.src
 have h3 := @cmpI_zero a.dst b.dst
 have hx : a = b ↔ a.bond = b.bond /\ a.src = b.src /\ a.dst = b.dst := by
  cases a; cases b; simp
 rw [hx]
 unfold tieO orI
 by_cases e1 : cmpS a.bond b.bond = 0
 ·rw [if_pos e1]
  unfold orI
  by_cases e2 : cmpI a.src b.src = 0
  ·rw [if_pos e2]
   unfold orI orI
   by_cases e3 : cmpI a.dst b.dst = 0
   ·rw [if_pos e3]; exact ⟨fun _ => ⟨h0.1 e1, h2.1 e2, h3.1 e3⟩, fun _ => rfl⟩
   rw [if_neg e3]; exact ⟨fun h => absurd h e3, fun h => absurd (h3.2 h.2.2) e3⟩
  rw [if_neg e2]; exact ⟨fun h => absurd h e2, fun h => absurd (h2.2 h.2.1) e2⟩
 rw [if_neg e1]; exact ⟨fun h => absurd h e1, fun h => absurd (h0.2 h.1) e1⟩
theorem tieO_trans {a b c : Tie} (h : tieO a b < 0) (k : tieO b c < 0) : tieO a c < 0 := by
 rw [tieO_neg] at h k ⊢
 rcases h with h | ⟨e1, h⟩
 ·rcases k with k | ⟨e2, _⟩
  ·exact .inl (cmpS_trans h k)
  exact .inl (by rw [<- e2]; exact h)
 rcases k with k | ⟨e2, k⟩
 ·exact .inl (by rw [e1]; exact k)
 refine .inr ⟨e1.trans e2, ?_⟩
 omega
theorem tieC_mono (t : Tie) : ∀ a b, tieLt a b = true -> 0 <= tieC t a -> 0 <= tieC t b := by
 intro a b h h1
 unfold tieLt at h
 unfold tieC at h1 ⊢
 have h := of_decide_eq_true h
 by_cases hb : tieO b t < 0
 ·have := tieO_trans h hb; omega
 omega
theorem tiesE_step {p : Option Tie} {t : Tie} {r : List Tie} (h : tiesE p (t :: r) = 0) : tieE t = 0 /\ tiesE (some t) r = 0 /\ (∀ a, p = some a -> tieLt a t = true) := by
 have e : tiesE p (t :: r) = if tieE t = 0 then (if (match p with | some q => decide (0 <= tieO q t) | none => false) then 7 else tiesE (some t) r) else tieE t := by cases p <;> rfl
 rw [e] at h
 by_cases h1 : tieE t = 0
 ·rw [if_pos h1] at h
  cases p with
  | none => exact ⟨h1, h, fun a ha => by cases ha⟩
  | some q =>
   have h : (if decide (0 <= tieO q t) = true then (7 : Int) else tiesE (some t) r) = 0 := h
   by_cases h2 : 0 <= tieO q t
   ·rw [if_pos (decide_eq_true h2)] at h; omega
   rw [if_neg (fun x => h2 (of_decide_eq_true x))] at h
   exact ⟨h1, h, fun a ha => by cases ha; exact decide_eq_true (by omega)⟩
 rw [if_neg h1] at h; exact absurd h h1
theorem tiesE_zero : ∀ {l : List Tie} {p : Option Tie}, tiesE p l = 0 -> (∀ t ∈ l, tieE t = 0) /\ chain tieLt l = true /\ (∀ a b, p = some a -> l.head? = some b -> tieLt a b = true)
 | [], p, _ => ⟨by simp, rfl, by simp⟩
 | n :: r, p, h => by
  obtain ⟨s1, s3, s4⟩ := tiesE_step h
  obtain ⟨i1, i2, i3⟩ := tiesE_zero s3
  refine ⟨?_, ?_, ?_⟩
  ·intro m hm
   rcases List.mem_cons.1 hm with rfl | hm
   ·exact s1
   exact i1 m hm
  ·cases r with
   | nil => rfl
   | cons b r => simp only [chain, Bool.and_eq_true]; exact ⟨i3 n b rfl rfl, i2⟩
  intro a b ha hb
  simp at hb
  subst hb
  exact s4 a ha
theorem grf_parts {g : Grf} (h : grfE g = 0) : nodsE none g.nodes = 0 /\ tiesE none g.ties = 0 := by
 unfold grfE at h
 by_cases h1 : 60 < g.nodes.length \/ 120 < g.ties.length
 ·rw [if_pos h1] at h; cases h
 rw [if_neg h1] at h
 by_cases h2 : nodsE none g.nodes = 0
 ·rw [if_pos h2] at h; exact ⟨h2, h⟩
 rw [if_neg h2] at h; exact absurd h h2
theorem grf_ties {g : Grf} (h : grfE g = 0) : chain tieLt g.ties = true /\ ∀ t ∈ g.ties, tieE t = 0 := by
 obtain ⟨i1, i2, _⟩ := tiesE_zero (grf_parts h).2
 exact ⟨i2, i1⟩
def InsR (w : World) (B : Nat) (e : TypeId) (sz : Nat) (v : Value) (n : Nat) (ys : List Value) (ed : Ending) (w' : World) : Prop :=
 ∃ v', ed = .returned v' /\ Own w' B e sz v' (n + 1) ys /\ w.grownBy w' v.ownBlock
def InsRA (w : World) (B : Nat) (e : TypeId) (sz : Nat) (v : Value) (n : Nat) (ys : List Value) (ed : Ending) (w' : World) : Prop :=
 ∃ v', ed = .returned v' /\ Own w' B e sz v' (n + 1) ys /\ w.grownBy w' v.ownBlock /\ (v'.ownBlock = v.ownBlock \/ ∃ k, v'.ownBlock = some k /\ w.heap.size <= k)
theorem InsRA.r {w : World} {B : Nat} {e : TypeId} {sz : Nat} {v : Value} {n : Nat} {ys : List Value} {ed : Ending} {w' : World} (h : InsRA w B e sz v n ys ed w') : InsR w B e sz v n ys ed w' := by
 obtain ⟨v', h1, h2, h3, _⟩ := h
 exact ⟨v', h1, h2, h3⟩
theorem at_new {a b : Option Nat} {n : Nat} (h : a = b \/ a = some n) : a = b \/ ∃ k, a = some k /\ n <= k := h.imp id fun h => ⟨n, h, Nat.le_refl _⟩
theorem _root_.Go.World.grownBy.drawnN {w w' : World} {row : Option Nat} (h : w.grownBy w' row) (n : Nat) : w.grownBy (w'.drewN n) row := ⟨h.os, h.tape, h.output, h.size, h.block⟩
theorem append_t2 {P : Program} (w : World) {t t2 e : TypeId} (ty : TypeId) (ht : P.underlying t = some (.slice e)) (ht2 : P.underlying t2 = some (.slice e)) (a b : Value) :
 (Builtin.append_ #[t, t2] ty #[a, b]).run P w = (Builtin.append_ #[t, t] ty #[a, b]).run P w := by
 have h1 := fun w => run_underlying (w := w) ht
 have h2 := fun w => run_underlying (w := w) ht2
 unfold Builtin.append_
 simp only [List.getElem?_toArray, List.getElem?_cons_zero, List.getElem?_cons_succ, Sem.run_bind, h1, Result.andThen_ok]
 cases a <;> simp only [Sem.run_bind, h1, h2, Result.andThen_ok]
theorem wpList_append_q2 {P : Program} (w : World) {ops : Array Oper} {rest : List Oper} {o : Oper} {a : Act} {Q : Exit -> Act -> World -> Prop} (hgd : o.guard = none) (s x : Operand) (t t2 : TypeId)
 (ho : o.op = .call { callee := .builtin .append, args := #[s, x], argTypes := #[t, t2] }) (e : TypeId) (ht2 : P.underlying t2 = some (.slice e))
 (B : Nat) (i : TypeInfo) (z : Value) (size bytes : Nat) (ht : P.underlying t = some (.slice e)) (hi : P.info? e = some i) (hz : i.zero = some z)
 (hsize : i.size = size) (hby : i.bytes = bytes) (hzs : z.cells.size = size) (hsz : 0 < size)
 (v : Value) (n : Nat) (xs : List Value) (hs : a.eval s = v) (hown : Own w B e size v n xs)
 (A : Option Addr) (m c : Nat) (news : List Value) (hx : a.eval x = .slice A m c) (hl : news.length = m * size) (hA : 0 < m -> ∃ a, A = some a /\ ∀ j u, news[j]? = some u -> w.cell? (a.add j) = some u) (h1 : ∀ u ∈ news, u.oneCell' = true)
 (h63 : n + m <= maxLen) (hbytes : (n + m) * bytes <= 140737488355328) (hbase : B <= w.heap.size)
 (h : ∀ v' w', Own w' B e size v' (n + m) (xs ++ news) -> w.grownBy w' v.ownBlock -> (v'.ownBlock = v.ownBlock \/ v'.ownBlock = some w.heap.size) -> wpList P ops Q rest (a.put o.dst v') w') : wpList P ops Q (o :: rest) a w :=
 wpList_plain hgd fun K hK => by
  obtain ⟨v', w', hr, h2, h3, h4⟩ := run_append_q (P := P) w B t o.type e i z size bytes ht hi hz hsize hby hzs hsz v n xs hown A m c news hl hA h1 h63 hbytes hbase
  have hr2 := (append_t2 w o.type ht ht2 v (.slice A m c)).trans hr
  unfold Oper.wp execOp
  simp only [ho, resolve, invoke, builtin, Sem.run_bind, Sem.run_pure, Result.andThen_ok, List.map_toArray, List.map_cons, List.map_nil, hs, hx, hr2]
  exact hK _ _ (h v' w' h2 h3 h4)
theorem ins_fld_info : (Tryz.prog.info? 84).map (fun i => (i.zero, i.size, i.bytes)) = some (some (.agg #[.string .empty, .int .i64 0, .bool false, .bool false]), 4, 32) := by kernel_rfl
set_option maxRecDepth 100000 in
set_option maxHeartbeats 8000000 in
theorem ins_fld_at (w : World) (B : Nat) (v : Value) (n : Nat) (xs : List Value) (hown : Own w B 84 4 v n xs) (i : Nat) (hi : i <= n) (vb : Nat) (cs : List Value) (hcl : cs.length = 4)
 (hcs : w.heap[vb]? = some (.cells cs.toArray 84 (0, 0))) (h1 : ∀ u ∈ cs, u.oneCell' = true) (hx1 : ∀ u ∈ xs, u.oneCell' = true) (hne : v.ownBlock ≠ some vb) (hB : B <= w.heap.size) (hn : n <= 1000000) :
 Calls Tryz.prog 140 #[v, .int .i64 i, .slice (some ⟨vb, 0, none⟩) 1 1] w (InsRA w B 84 4 v n (xs.take (i * 4) ++ cs ++ xs.drop (i * 4))) := by
 obtain ⟨i0, ei, ez, ez1, ez2⟩ := info_parts ins_fld_info
 have hc : ∀ (W : World), W.heap[vb]? = w.heap[vb]? -> ∀ j u, cs[j]? = some u -> W.cell? ⟨vb, j, none⟩ = some u := fun W hW j u hj => by
  rw [cell_of_row W vb j _ _ _ (hW.trans hcs)]; simpa using hj
 have hlen := hown.1
 by_cases hin : i = n
 ·subst hin
  have e1 : xs.take (i * 4) ++ cs ++ xs.drop (i * 4) = xs ++ cs := by rw [<- hlen, List.take_length, List.drop_length, List.append_nil]
  rw [e1]
  have H := hown
  rcases hown.2 with ⟨rfl, rfl⟩ | ⟨g, o, cap, cur, rfl, hbg, hg, hnc, hcm, hfit, htk⟩
  ·go_enter Tryz.func140, Tryz.ntmps140
   go_wp2_with (first
    | (at_builtin; refine wpList_append_q2 _ rfl (.tmp 23) (.tmp 24) 78 78 rfl 84 Tryz.underlying78 B i0 (.agg #[.string .empty, .int .i64 0, .bool false, .bool false]) 4 32 Tryz.underlying78 ei ez ez1 ez2 rfl (by decide) (.slice none 0 0) 0 xs rfl H (some ⟨vb, 0, none⟩) 1 1 cs rfl (by omega) (fun _ => ⟨_, rfl, fun j u hj => by rw [addr_add, Nat.zero_add]; exact hc w rfl j u hj⟩) h1 (by unfold maxLen; omega) (by omega) hB ?_; intro v7 w7 hown7 hg7 hat7))
   go_ret
   exact ⟨_, rfl, hown7, hg7, at_new hat7⟩
  go_enter Tryz.func140, Tryz.ntmps140
  go_wp2_with (first
   | (at_builtin; refine wpList_append_q2 _ rfl (.tmp 23) (.tmp 24) 78 78 rfl 84 Tryz.underlying78 B i0 (.agg #[.string .empty, .int .i64 0, .bool false, .bool false]) 4 32 Tryz.underlying78 ei ez ez1 ez2 rfl (by decide) (.slice (some ⟨g, o, none⟩) i cap) i xs rfl H (some ⟨vb, 0, none⟩) 1 1 cs rfl (by omega) (fun _ => ⟨_, rfl, fun j u hj => by rw [addr_add, Nat.zero_add]; exact hc w rfl j u hj⟩) h1 (by unfold maxLen; omega) (by omega) hB ?_; intro v7 w7 hown7 hg7 hat7))
  all_goals go_ret
  all_goals exact ⟨_, rfl, hown7, hg7, at_new hat7⟩
 have hlt : i < n := by omega
 rcases hown.2 with ⟨_, h0⟩ | ⟨g, o, cap, cur, rfl, hbg, hg, hnc, hcm, hfit, htk⟩
 ·omega
 have hgl : g < w.heap.size := (geB hg)
 have hgv : g ≠ vb := fun e => hne (by simp [Value.ownBlock, e])
 have hin' : ¬ ((i : Int) = (n : Int)) := by omega
 have hin2 : decide ((i : Int) = (n : Int)) = false := decide_eq_false hin'
 have hlt' : (i : Int) < (n : Int) := by omega
 have hn' : (n : Int) <= 1000000 := by omega
 have hY : Hid (xs.take (i * 4) ++ cs ++ xs.drop (i * 4) = xs.take (i * 4) ++ cs ++ xs.drop (i * 4)) := rfl
 generalize hYY : xs.take (i * 4) ++ cs ++ xs.drop (i * 4) = ys at hY
 by_cases hroom : n + 1 <= cap
 ·obtain ⟨W1, W2, c1, c2, hfin⟩ := ins_room (P := Tryz.prog) w B 84 78 78 i0 4 Tryz.underlying78 ei ez1 (by decide) g o n cap xs hown i hlt vb cs hcl hcs h1 hx1 hgv hroom
  have hap := ins_apart (P := Tryz.prog) w B 84 78 i0 4 Tryz.underlying78 ei ez1 (by decide) g o n cap xs hown i hlt vb cs hcl hcs hgv hroom 4
  rw [hYY] at hfin
  rw [show n + 1 - (i + 1) = n - i by omega] at c1
  have C1 := Lib.hid c1
  have C2 := Lib.hid c2
  have HF := Lib.hid hfin
  have HA := Lib.hid hap
  have hr1 : decide ((cap : Int) < (n : Int) + 1) = false := decide_eq_false (by omega)
  have hr2 : ¬ ((cap : Int) < (n : Int) + 1) := by omega
  have hr3 : n + 1 <= cap := hroom
  clear c1 c2 hfin hap hown hc h1 hx1 hcs hg hcl htk hlen hYY hY hne ei ez ez1 ez2
  go_enter Tryz.func140, Tryz.ntmps140
  go_wp2_with fail
  rw [run_callFunc_extern Tryz.func191 (by kernel_rfl) (by kernel_rfl) (by kernel_rfl) (e := Extern.SlicesOverlaps.overlaps #[78, 78] #[4]) (by kernel_rfl), HA.out]
  simp only [Result.andThen]
  rw [Oper.upon_value]
  go_wp2_with fail
  refine wp_mid_k 8 _ rfl rfl (by kernel_rfl) (by kernel_rfl) ?_
  simp only [List.take_succ_cons, List.take_zero, List.drop_succ_cons, List.drop_zero]
  repeat (go_big_quiet_step (fail))
  refine wpQuiet_nil ?_
  intro _ hw'
  obtain ⟨nq, hw''⟩ := hw'
  subst hw''
  intro K hK
  refine wp_copy_q _ (.tmp 73) (.tmp 76) _ _ rfl _ _ rfl rfl (C1.out nq _) ?_
  refine hK _ _ ?_
  refine wpQuiet_nil ?_
  intro _ hw'
  obtain ⟨nq2, hw''⟩ := hw'
  subst hw''
  go_wp2_with fail
  rw [C2.out]
  simp only [Result.andThen]
  rw [Oper.upon_value]
  go_wp2_with fail
  go_ret
  exact ⟨_, rfl, (HF.out nq nq2).1, (HF.out nq nq2).2, .inl rfl⟩
 obtain ⟨G, W1, W2, W3, hG, c0, c1, c2, hfin⟩ := ins_grow (P := Tryz.prog) w B 84 78 78 3 i0 (.agg #[.string .empty, .int .i64 0, .bool false, .bool false]) 4 32 Tryz.underlying78 Tryz.underlying3 ei ez ez1 ez2 rfl (by decide) (by decide) g o n cap xs hown i hlt hn vb cs hcl hcs h1 hx1 hB (by omega)
 rw [hYY] at hfin
 rw [show n + 1 - (i + 1) = n - i by omega] at c2
 have C0 := Lib.hid c0
 have C1 := Lib.hid c1
 have C2 := Lib.hid c2
 have HF := Lib.hid hfin
 have hr1 : decide ((cap : Int) < (n : Int) + 1) = true := decide_eq_true (by omega)
 have hr2 : (cap : Int) < (n : Int) + 1 := by omega
 have hik : i <= n + 1 := by omega
 have hG2 : (n : Int) + 1 <= (G : Int) := by omega
 have hi1 : i + 1 <= n + 1 := by omega
 clear c0 c1 c2 hfin hown hc h1 hx1 hcs hg hcl htk hlen hYY hY hne ei ez ez1 ez2
 go_enter Tryz.func140, Tryz.ntmps140
 go_wp2_with (first
  | (at_builtin; refine wpList_append_z _ rfl (.tmp 34) (.tmp 39) _ _ rfl _ _ rfl rfl (C0.out _) ?_)
  | fail)
 rw [C1.out]
 simp only [Result.andThen]
 rw [Oper.upon_value]
 go_wp2_with fail
 go_frame
 refine wp_mid_k 8 _ rfl rfl (by kernel_rfl) (by kernel_rfl) ?_
 simp only [List.take_succ_cons, List.take_zero, List.drop_succ_cons, List.drop_zero]
 repeat (go_big_quiet_step (fail))
 refine wpQuiet_nil ?_
 intro _ hw'
 obtain ⟨nq, hw''⟩ := hw'
 subst hw''
 intro K hK
 refine wp_copy_q _ (.tmp 50) (.tmp 53) _ _ rfl _ _ rfl rfl (C2.out nq _) ?_
 refine hK _ _ ?_
 refine wpQuiet_nil ?_
 intro _ hw'
 obtain ⟨nq2, hw''⟩ := hw'
 subst hw''
 go_wp2_with fail
 go_ret
 exact ⟨_, rfl, (HF.out nq).1.drewN nq2, ((HF.out nq).2 _).drawnN nq2, .inr ⟨w.heap.size, rfl, Nat.le_refl _⟩⟩
theorem ins_fld (w : World) (B : Nat) (v : Value) (n : Nat) (xs : List Value) (hown : Own w B 84 4 v n xs) (i : Nat) (hi : i <= n) (vb : Nat) (cs : List Value) (hcl : cs.length = 4)
 (hcs : w.heap[vb]? = some (.cells cs.toArray 84 (0, 0))) (h1 : ∀ u ∈ cs, u.oneCell' = true) (hx1 : ∀ u ∈ xs, u.oneCell' = true) (hne : v.ownBlock ≠ some vb) (hB : B <= w.heap.size) (hn : n <= 1000000) :
 Calls Tryz.prog 140 #[v, .int .i64 i, .slice (some ⟨vb, 0, none⟩) 1 1] w (InsR w B 84 4 v n (xs.take (i * 4) ++ cs ++ xs.drop (i * 4))) :=
 (ins_fld_at w B v n xs hown i hi vb cs hcl hcs h1 hx1 hne hB hn).mono fun _ _ h => h.r
theorem ins_prp_info : (Tryz.prog.info? 33).map (fun i => (i.zero, i.size, i.bytes)) = some (some (.agg #[.string .empty, .int .i64 0, .int .i64 0, .string .empty]), 4, 48) := by kernel_rfl
set_option maxRecDepth 100000 in
set_option maxHeartbeats 8000000 in
theorem ins_prp_at (w : World) (B : Nat) (v : Value) (n : Nat) (xs : List Value) (hown : Own w B 33 4 v n xs) (i : Nat) (hi : i <= n) (vb : Nat) (cs : List Value) (hcl : cs.length = 4)
 (hcs : w.heap[vb]? = some (.cells cs.toArray 33 (0, 0))) (h1 : ∀ u ∈ cs, u.oneCell' = true) (hx1 : ∀ u ∈ xs, u.oneCell' = true) (hne : v.ownBlock ≠ some vb) (hB : B <= w.heap.size) (hn : n <= 1000000) :
 Calls Tryz.prog 159 #[v, .int .i64 i, .slice (some ⟨vb, 0, none⟩) 1 1] w (InsRA w B 33 4 v n (xs.take (i * 4) ++ cs ++ xs.drop (i * 4))) := by
 obtain ⟨i0, ei, ez, ez1, ez2⟩ := info_parts ins_prp_info
 have hc : ∀ (W : World), W.heap[vb]? = w.heap[vb]? -> ∀ j u, cs[j]? = some u -> W.cell? ⟨vb, j, none⟩ = some u := fun W hW j u hj => by
  rw [cell_of_row W vb j _ _ _ (hW.trans hcs)]; simpa using hj
 have hlen := hown.1
 by_cases hin : i = n
 ·subst hin
  have e1 : xs.take (i * 4) ++ cs ++ xs.drop (i * 4) = xs ++ cs := by rw [<- hlen, List.take_length, List.drop_length, List.append_nil]
  rw [e1]
  have H := hown
  rcases hown.2 with ⟨rfl, rfl⟩ | ⟨g, o, cap, cur, rfl, hbg, hg, hnc, hcm, hfit, htk⟩
  ·go_enter Tryz.func159, Tryz.ntmps159
   go_wp2_with (first
    | (at_builtin; refine wpList_append_q2 _ rfl (.tmp 23) (.tmp 24) 27 26 rfl 33 Tryz.underlying26 B i0 (.agg #[.string .empty, .int .i64 0, .int .i64 0, .string .empty]) 4 48 Tryz.underlying27 ei ez ez1 ez2 rfl (by decide) (.slice none 0 0) 0 xs rfl H (some ⟨vb, 0, none⟩) 1 1 cs rfl (by omega) (fun _ => ⟨_, rfl, fun j u hj => by rw [addr_add, Nat.zero_add]; exact hc w rfl j u hj⟩) h1 (by unfold maxLen; omega) (by omega) hB ?_; intro v7 w7 hown7 hg7 hat7))
   go_ret
   exact ⟨_, rfl, hown7, hg7, at_new hat7⟩
  go_enter Tryz.func159, Tryz.ntmps159
  go_wp2_with (first
   | (at_builtin; refine wpList_append_q2 _ rfl (.tmp 23) (.tmp 24) 27 26 rfl 33 Tryz.underlying26 B i0 (.agg #[.string .empty, .int .i64 0, .int .i64 0, .string .empty]) 4 48 Tryz.underlying27 ei ez ez1 ez2 rfl (by decide) (.slice (some ⟨g, o, none⟩) i cap) i xs rfl H (some ⟨vb, 0, none⟩) 1 1 cs rfl (by omega) (fun _ => ⟨_, rfl, fun j u hj => by rw [addr_add, Nat.zero_add]; exact hc w rfl j u hj⟩) h1 (by unfold maxLen; omega) (by omega) hB ?_; intro v7 w7 hown7 hg7 hat7))
  all_goals go_ret
  all_goals exact ⟨_, rfl, hown7, hg7, at_new hat7⟩
 have hlt : i < n := by omega
 rcases hown.2 with ⟨_, h0⟩ | ⟨g, o, cap, cur, rfl, hbg, hg, hnc, hcm, hfit, htk⟩
 ·omega
 have hgl : g < w.heap.size := (geB hg)
 have hgv : g ≠ vb := fun e => hne (by simp [Value.ownBlock, e])
 have hin' : ¬ ((i : Int) = (n : Int)) := by omega
 have hin2 : decide ((i : Int) = (n : Int)) = false := decide_eq_false hin'
 have hlt' : (i : Int) < (n : Int) := by omega
 have hn' : (n : Int) <= 1000000 := by omega
 have hY : Hid (xs.take (i * 4) ++ cs ++ xs.drop (i * 4) = xs.take (i * 4) ++ cs ++ xs.drop (i * 4)) := rfl
 generalize hYY : xs.take (i * 4) ++ cs ++ xs.drop (i * 4) = ys at hY
 by_cases hroom : n + 1 <= cap
 ·obtain ⟨W1, W2, c1, c2, hfin⟩ := ins_room (P := Tryz.prog) w B 33 27 26 i0 4 Tryz.underlying27 ei ez1 (by decide) g o n cap xs hown i hlt vb cs hcl hcs h1 hx1 hgv hroom
  have hap := ins_apart (P := Tryz.prog) w B 33 26 i0 4 Tryz.underlying26 ei ez1 (by decide) g o n cap xs hown i hlt vb cs hcl hcs hgv hroom 4
  rw [hYY] at hfin
  rw [show n + 1 - (i + 1) = n - i by omega] at c1
  have C1 := Lib.hid c1
  have C2 := Lib.hid c2
  have HF := Lib.hid hfin
  have HA := Lib.hid hap
  have hr1 : decide ((cap : Int) < (n : Int) + 1) = false := decide_eq_false (by omega)
  have hr2 : ¬ ((cap : Int) < (n : Int) + 1) := by omega
  have hr3 : n + 1 <= cap := hroom
  clear c1 c2 hfin hap hown hc h1 hx1 hcs hg hcl htk hlen hYY hY hne ei ez ez1 ez2
  go_enter Tryz.func159, Tryz.ntmps159
  go_wp2_with fail
  rw [run_callFunc_extern Tryz.func201 (by kernel_rfl) (by kernel_rfl) (by kernel_rfl) (e := Extern.SlicesOverlaps.overlaps #[26, 26] #[4]) (by kernel_rfl), HA.out]
  simp only [Result.andThen]
  rw [Oper.upon_value]
  go_wp2_with fail
  refine wp_mid_k 8 _ rfl rfl (by kernel_rfl) (by kernel_rfl) ?_
  simp only [List.take_succ_cons, List.take_zero, List.drop_succ_cons, List.drop_zero]
  repeat (go_big_quiet_step (fail))
  refine wpQuiet_nil ?_
  intro _ hw'
  obtain ⟨nq, hw''⟩ := hw'
  subst hw''
  intro K hK
  refine wp_copy_q _ (.tmp 73) (.tmp 76) _ _ rfl _ _ rfl rfl (C1.out nq _) ?_
  refine hK _ _ ?_
  refine wpQuiet_nil ?_
  intro _ hw'
  obtain ⟨nq2, hw''⟩ := hw'
  subst hw''
  go_wp2_with fail
  rw [C2.out]
  simp only [Result.andThen]
  rw [Oper.upon_value]
  go_wp2_with fail
  go_ret
  exact ⟨_, rfl, (HF.out nq nq2).1, (HF.out nq nq2).2, .inl rfl⟩
 obtain ⟨G, W1, W2, W3, hG, c0, c1, c2, hfin⟩ := ins_grow (P := Tryz.prog) w B 33 27 26 3 i0 (.agg #[.string .empty, .int .i64 0, .int .i64 0, .string .empty]) 4 48 Tryz.underlying27 Tryz.underlying3 ei ez ez1 ez2 rfl (by decide) (by decide) g o n cap xs hown i hlt hn vb cs hcl hcs h1 hx1 hB (by omega)
 rw [hYY] at hfin
 rw [show n + 1 - (i + 1) = n - i by omega] at c2
 have C0 := Lib.hid c0
 have C1 := Lib.hid c1
 have C2 := Lib.hid c2
 have HF := Lib.hid hfin
 have hr1 : decide ((cap : Int) < (n : Int) + 1) = true := decide_eq_true (by omega)
 have hr2 : (cap : Int) < (n : Int) + 1 := by omega
 have hik : i <= n + 1 := by omega
 have hG2 : (n : Int) + 1 <= (G : Int) := by omega
 have hi1 : i + 1 <= n + 1 := by omega
 clear c0 c1 c2 hfin hown hc h1 hx1 hcs hg hcl htk hlen hYY hY hne ei ez ez1 ez2
 go_enter Tryz.func159, Tryz.ntmps159
 go_wp2_with (first
  | (at_builtin; refine wpList_append_z _ rfl (.tmp 34) (.tmp 39) _ _ rfl _ _ rfl rfl (C0.out _) ?_)
  | fail)
 rw [C1.out]
 simp only [Result.andThen]
 rw [Oper.upon_value]
 go_wp2_with fail
 go_frame
 refine wp_mid_k 8 _ rfl rfl (by kernel_rfl) (by kernel_rfl) ?_
 simp only [List.take_succ_cons, List.take_zero, List.drop_succ_cons, List.drop_zero]
 repeat (go_big_quiet_step (fail))
 refine wpQuiet_nil ?_
 intro _ hw'
 obtain ⟨nq, hw''⟩ := hw'
 subst hw''
 intro K hK
 refine wp_copy_q _ (.tmp 50) (.tmp 53) _ _ rfl _ _ rfl rfl (C2.out nq _) ?_
 refine hK _ _ ?_
 refine wpQuiet_nil ?_
 intro _ hw'
 obtain ⟨nq2, hw''⟩ := hw'
 subst hw''
 go_wp2_with fail
 go_ret
 exact ⟨_, rfl, (HF.out nq).1.drewN nq2, ((HF.out nq).2 _).drawnN nq2, .inr ⟨w.heap.size, rfl, Nat.le_refl _⟩⟩
theorem ins_prp (w : World) (B : Nat) (v : Value) (n : Nat) (xs : List Value) (hown : Own w B 33 4 v n xs) (i : Nat) (hi : i <= n) (vb : Nat) (cs : List Value) (hcl : cs.length = 4)
 (hcs : w.heap[vb]? = some (.cells cs.toArray 33 (0, 0))) (h1 : ∀ u ∈ cs, u.oneCell' = true) (hx1 : ∀ u ∈ xs, u.oneCell' = true) (hne : v.ownBlock ≠ some vb) (hB : B <= w.heap.size) (hn : n <= 1000000) :
 Calls Tryz.prog 159 #[v, .int .i64 i, .slice (some ⟨vb, 0, none⟩) 1 1] w (InsR w B 33 4 v n (xs.take (i * 4) ++ cs ++ xs.drop (i * 4))) :=
 (ins_prp_at w B v n xs hown i hi vb cs hcl hcs h1 hx1 hne hB hn).mono fun _ _ h => h.r
end Go.Proofs.YtngbbefpphinjaaGreatDoor
