/- Parts: GNode, EmptyP, EndP, SortI, EndA. -/
import Derived.Test.YtpjnbikkhfnjbaaMg12
import Derived.Test.YtpjnbikkhfnjbaaMg10
import Derived.Test.YtpjnbikkhfnjbaaMg01
import Derived.Test.YtpjnbikkhfnjbaaRows
import Derived.Shelf.SortM.Plain
import Derived.Shelf.SortM.SortNone
import Derived.Ground.SlgmProg
import Derived.Test.YtpjnbikkhfnjbaaMg09
/- Contract: graph.Node. -/
namespace Go.Proofs.Ytpjnbikkhfnjbaa
open Go Go.RowKit

def zeroN : Nod := ⟨0, .empty, []⟩
def nodeE (g : Grf) (id : Int) : Int := if grfE g = 0 then (if fhas g.nodes id then 0 else 5) else grfE g
def nodeR (g : Grf) (id : Int) : Nod := if nodeE g id = 0 then (g.nodes[fpos g.nodes id]?).getD zeroN else zeroN
theorem nod_rec2 {n : Nod} (h : nodE n = 0) : recE n.props = 0 := by
  unfold nodE at h
  split at h
  · omega
  · split at h
    · exact h
    · rename_i h2; exact absurd h h2
/-- A node and an error. -/
def RetN (n : Nod) (err : Int) (w : World) (e : Ending) (w' : World) : Prop := ∃ u, e = .returned (.tuple #[.agg #[.int .i64 n.id, .string n.kind, u], errV err]) ∧ Sl prpL w' u n.props ∧ Below w.heap.size w w'
end Go.Proofs.Ytpjnbikkhfnjbaa

/- Plain: a graph of which the nodes are gone one by one. -/
namespace Go.Proofs.Ytpjnbikkhfnjbaa

theorem nodsE_weak {p : Option Nod} {l : List Nod} (h : nodsE p l = 0) : nodsE none l = 0 := by
  cases l with
  | nil => rfl
  | cons n r =>
    obtain ⟨h1, h2, h3, _⟩ := nodsE_step h
    have e : nodsE none (n :: r) = if idB n.id = false then 1 else if nodE n = 0 then nodsE (some n) r else nodE n := rfl
    rw [e, if_neg (by simp [h1]), if_pos h2, h3]
theorem nodsE_drop : ∀ (k : Nat) {p : Option Nod} {l : List Nod}, nodsE p l = 0 → nodsE none (l.drop k) = 0
  | 0, _, _, h => nodsE_weak h
  | k + 1, _, [], _ => rfl
  | k + 1, _, n :: r, h => nodsE_drop k (nodsE_step h).2.2.1
theorem tiesE_filter (f : Tie → Bool) : ∀ {l : List Tie} {p q : Option Tie}, (∀ a, p = some a → q = some a ∨ ∃ b, q = some b ∧ tieO a b < 0) → (p = none → True) → tiesE q l = 0 → tiesE p (l.filter f) = 0
  | [], p, q, _, _, _ => by cases p <;> rfl
  | t :: r, p, q, hp, _, h => by
    obtain ⟨s1, s2, s3⟩ := tiesE_step h
    have hlt : ∀ a, p = some a → tieO a t < 0 := fun a ha => by
      rcases hp a ha with hq | ⟨b, hq, hab⟩
      · have := s3 a hq; unfold tieLt at this; exact of_decide_eq_true this
      · have := s3 b hq; unfold tieLt at this; exact tieO_trans hab (of_decide_eq_true this)
    rw [List.filter_cons]
    by_cases hf : f t = true
    · rw [if_pos hf]
      have e : tiesE p (t :: r.filter f) = if tieE t = 0 then (if (match p with | some q => decide (0 ≤ tieO q t) | none => false) then 7 else tiesE (some t) (r.filter f)) else tieE t := by cases p <;> rfl
      rw [e, if_pos s1]
      have ih := tiesE_filter f (l := r) (p := some t) (q := some t) (fun a ha => .inl ha) (fun _ => trivial) s2
      cases p with
      | none => simpa using ih
      | some a =>
        have h1 := hlt a rfl
        have h2 : decide (0 ≤ tieO a t) = false := decide_eq_false (by omega)
        show (if decide (0 ≤ tieO a t) = true then (7 : Int) else tiesE (some t) (r.filter f)) = 0
        rw [h2]; simpa using ih
    · rw [if_neg hf]
      exact tiesE_filter f (l := r) (p := p) (q := some t) (fun a ha => .inr ⟨t, rfl, hlt a ha⟩) (fun _ => trivial) s2
def cutG (g : Grf) (k : Nat) : Grf := ⟨g.nodes.drop k, g.ties.filter fun t => !((g.nodes.take k).any fun n => touch n.id t)⟩
theorem cut_zero (g : Grf) : cutG g 0 = g := by
  unfold cutG
  have : g.ties.filter (fun t => !((g.nodes.take 0).any fun n => touch n.id t)) = g.ties := List.filter_eq_self.2 (fun a _ => by simp)
  rw [this, List.drop_zero]
theorem cut_right {g : Grf} (h : grfE g = 0) (k : Nat) : grfE (cutG g k) = 0 := by
  obtain ⟨h1, h2⟩ := grf_parts h
  obtain ⟨l1, l2, _, _⟩ := grf_ok h
  have e1 : nodsE none (cutG g k).nodes = 0 := nodsE_drop k h1
  have e2 : tiesE none (cutG g k).ties = 0 := tiesE_filter _ (q := none) (fun a ha => by cases ha) (fun _ => trivial) h2
  unfold grfE
  have l3 : (cutG g k).nodes.length ≤ 60 := by unfold cutG; simp; omega
  have l4 : (cutG g k).ties.length ≤ 120 := Nat.le_trans (List.length_filter_le _ _) l2
  rw [if_neg (by omega), e1, if_pos rfl, e2]
theorem fpos_head {l : List Nod} {n : Nod} {r : List Nod} (h : l = n :: r) : fpos l n.id = 0 ∧ fhas l n.id = true := by
  subst h
  have h0 : nodC n.id n = 0 := by unfold nodC; exact cmpI_zero.2 rfl
  have h1 : fpos (n :: r) n.id = 0 := by
    unfold fpos lowI
    rw [List.findIdx_cons]
    simp [h0]
  refine ⟨h1, ?_⟩
  unfold fhas
  rw [h1]
  unfold eqAt
  simp [h0]
theorem cut_step {g : Grf} {k : Nat} {n : Nod} (hd : g.nodes[k]? = some n) : goneG (cutG g k) n.id = cutG g (k + 1) ∧ fhas (cutG g k).nodes n.id = true := by
  have hc : (cutG g k).nodes = n :: g.nodes.drop (k + 1) := drop_cons hd
  obtain ⟨h1, h2⟩ := fpos_head hc
  refine ⟨?_, h2⟩
  unfold goneG
  rw [h1, hc]
  unfold cutG
  simp only [List.take_zero, List.nil_append, List.drop_succ_cons, List.drop_zero, List.filter_filter]
  rw [take_snoc hd]
  congr 1
  apply List.filter_congr
  intro t _
  rw [List.any_append]
  simp only [List.any_cons, List.any_nil, Bool.or_false, Bool.not_or]
  exact Bool.and_comm _ _
theorem beq_swap (a b : Int) : (a == b) = (b == a) := by
  rcases Int.decEq a b with h | h
  · rw [beq_eq_false_iff_ne.2 h, beq_eq_false_iff_ne.2 (Ne.symm h)]
  · subst h; rfl
def looseN (g : Grf) : Nat := (g.ties.filter fun t => !(fhas g.nodes t.src) && !(fhas g.nodes t.dst)).length
theorem chain_lt2 {l : List Nod} (hc : chain nodLt l = true) : ∀ {i j : Nat} {a b : Nod}, i < j → l[i]? = some a → l[j]? = some b → a.id < b.id := by
  intro i j
  induction j with
  | zero => intro a b h; omega
  | succ j ih =>
    intro a b h ha hb
    have hj : j < l.length := by have := (List.getElem?_eq_some_iff.1 hb).1; omega
    have h1 := chain_iff.1 hc j l[j] b (List.getElem?_eq_getElem hj) hb
    simp only [nodLt, decide_eq_true_eq] at h1
    rcases Nat.lt_or_ge i j with h2 | h2
    · have := ih (b := l[j]) h2 ha (List.getElem?_eq_getElem hj); omega
    · obtain rfl : i = j := by omega
      have := ha.symm.trans (List.getElem?_eq_getElem hj)
      cases this
      exact h1
theorem fhas_any {l : List Nod} (hc : chain nodLt l = true) (id : Int) : fhas l id = l.any fun n => n.id == id := by
  cases hq : fhas l id with
  | true =>
    obtain ⟨n, hn⟩ := fhas_some' hq
    have h0 : nodC id n = 0 := by
      unfold fhas eqAt at hq
      rw [hn] at hq
      simpa using hq
    have := (cmpI_zero (a := n.id) (b := id)).1 h0
    exact (List.any_eq_true.2 ⟨n, List.mem_of_getElem? hn, by simp [this]⟩).symm
  | false =>
    symm
    rw [List.any_eq_false]
    intro n hn
    obtain ⟨i, hi⟩ := List.mem_iff_getElem?.1 hn
    simp only [beq_iff_eq]
    intro he
    have h0 : nodC id n = 0 := cmpI_zero.2 he
    rcases Nat.lt_trichotomy i (fpos l id) with h | h | h
    · have := low_lt (c := nodC id) h hi; omega
    · subst h
      unfold fhas eqAt at hq
      rw [hi] at hq
      simp [h0] at hq
    · have hlt : fpos l id < l.length := by have := (List.getElem?_eq_some_iff.1 hi).1; omega
      obtain ⟨m, hm⟩ : ∃ m, l[fpos l id]? = some m := ⟨_, List.getElem?_eq_getElem hlt⟩
      have h1 := low_ge (c := nodC id) hc (nodC_mono id) (Nat.le_refl _) hm
      have h2 : ¬ nodC id m = 0 := by
        unfold fhas eqAt at hq
        rw [hm] at hq
        simpa using hq
      have h3 := chain_lt2 hc h hm hi
      unfold nodC at h0 h1 h2
      have a1 := (cmpI_zero (a := n.id) (b := id)).1 h0
      have a2 := @cmpI_neg m.id id
      have a3 := @cmpI_zero m.id id
      have a4 : ¬ m.id < id := fun h => by have := a2.2 h; omega
      have a5 : ¬ m.id = id := fun h => h2 (a3.2 h)
      omega
theorem cut_all {g : Grf} (h : grfE g = 0) : (cutG g g.nodes.length).nodes = [] ∧ (cutG g g.nodes.length).ties.length = looseN g := by
  obtain ⟨_, _, hc, _⟩ := grf_ok h
  refine ⟨by unfold cutG; simp, ?_⟩
  unfold cutG looseN
  rw [List.take_length]
  congr 1
  apply List.filter_congr
  intro t _
  rw [fhas_any hc, fhas_any hc]
  unfold touch
  simp only [← Bool.not_or]
  congr 1
  induction g.nodes with
  | nil => rfl
  | cons n r ih =>
    simp only [List.any_cons, ih]
    have e1 : (t.src == n.id) = (n.id == t.src) := beq_swap _ _
    have e2 : (t.dst == n.id) = (n.id == t.dst) := beq_swap _ _
    rw [e1, e2]
    cases (n.id == t.src) <;> cases (n.id == t.dst) <;> simp
end Go.Proofs.Ytpjnbikkhfnjbaa

/- Plain: ends of ties of a graph; as many go out as come in, but for those that lead nowhere. No condition. -/
namespace Go.Proofs.Ytpjnbikkhfnjbaa

def endT (back : Bool) (bond : ByteArray) (id : Int) (t : Tie) : Bool := decide (t.bond = bond) && (if back then t.dst == id else t.src == id)
def endX (back : Bool) (t : Tie) : Int := if back then t.src else t.dst
/-- Ends of ties of a bond at a node, in the order of the ties. -/
def endsL (ts : List Tie) (id : Int) (bond : ByteArray) (back : Bool) : List Int := (ts.filter (endT back bond id)).map (endX back)
theorem endsL_mem {ts : List Tie} {id : Int} {bond : ByteArray} {back : Bool} {x : Int} (h : x ∈ endsL ts id bond back) : id ∈ endsL ts x bond (!back) := by
  unfold endsL at h ⊢
  obtain ⟨t, ht, rfl⟩ := List.mem_map.1 h
  obtain ⟨h1, h2⟩ := List.mem_filter.1 ht
  unfold endT at h2
  simp only [Bool.and_eq_true, decide_eq_true_eq] at h2
  obtain ⟨h3, h4⟩ := h2
  refine List.mem_map.2 ⟨t, List.mem_filter.2 ⟨h1, ?_⟩, ?_⟩
  · unfold endT endX
    cases back <;> simp [h3]
  · unfold endX
    cases back <;> simpa using h4
def idsN (l : List Nod) : List Int := l.map (·.id)
theorem ids_nodup {l : List Nod} (hc : chain nodLt l = true) {k : Nat} {n : Nod} (hn : l[k]? = some n) : n.id ∉ (idsN l).take k := by
  intro h
  obtain ⟨j, hj⟩ := List.mem_iff_getElem?.1 h
  rw [List.getElem?_take] at hj
  split at hj
  · unfold idsN at hj
    rw [List.getElem?_map] at hj
    cases hm : l[j]? with
    | none => rw [hm] at hj; cases hj
    | some m =>
      rw [hm] at hj
      have : m.id = n.id := by simpa using hj
      have := chain_lt2 hc (by assumption : j < k) hm hn
      omega
  · cases hj
theorem ids_has {l : List Nod} (hc : chain nodLt l = true) (id : Int) : fhas l id = decide (id ∈ idsN l) := by
  rw [fhas_any hc, Bool.eq_iff_iff, List.any_eq_true, decide_eq_true_eq]
  unfold idsN
  constructor
  · rintro ⟨n, h1, h2⟩
    exact List.mem_map.2 ⟨n, h1, by simpa using h2⟩
  · intro h
    obtain ⟨n, h1, h2⟩ := List.mem_map.1 h
    exact ⟨n, h1, by simpa using h2⟩
/-- Ties of a bond of which the one end is among some, the other as is asked. -/
def cntT (ts : List Tie) (bond : ByteArray) (back : Bool) (I : List Int) (f : Int → Bool) : Nat :=
  ts.countP fun t => decide (t.bond = bond) && (if back then I.contains t.dst else I.contains t.src) && f (endX back t)
theorem cntT_nil (ts : List Tie) (bond : ByteArray) (back : Bool) (f : Int → Bool) : cntT ts bond back [] f = 0 := by
  unfold cntT
  rw [List.countP_eq_zero]
  intro t _
  cases back <;> simp
theorem countP_or {α : Type} (p q r : α → Bool) (h1 : ∀ a, r a = (p a || q a)) (h2 : ∀ a, ¬ (p a = true ∧ q a = true)) : ∀ l : List α, l.countP r = l.countP p + l.countP q
  | [] => rfl
  | a :: l => by
    rw [List.countP_cons, List.countP_cons, List.countP_cons, countP_or p q r h1 h2 l, h1 a]
    have := h2 a
    cases hp : p a <;> cases hq : q a <;> simp_all <;> omega
theorem cntT_step (ts : List Tie) (bond : ByteArray) (back : Bool) (I : List Int) (id : Int) (f : Int → Bool) (hI : id ∉ I) :
    cntT ts bond back (I ++ [id]) f = cntT ts bond back I f + (endsL ts id bond back).countP f := by
  unfold cntT endsL
  rw [List.countP_map, List.countP_filter]
  refine countP_or _ _ _ (fun t => ?_) (fun t => ?_) ts
  · unfold endT
    cases back <;> simp only [List.contains_append, List.contains_cons, List.contains_nil, Bool.or_false, Function.comp_apply, if_true, if_false, Bool.false_eq_true] <;>
      cases decide (t.bond = bond) <;> simp [Bool.and_or_distrib_right, Bool.and_comm]
  · unfold endT
    cases back <;> (simp only [Function.comp_apply, if_true, if_false, Bool.false_eq_true, Bool.and_eq_true, decide_eq_true_eq, List.contains_iff_mem, beq_iff_eq]; rintro ⟨⟨⟨_, h1⟩, _⟩, _, _, h2⟩; rw [h2] at h1; exact hI h1)
theorem cntT_split (ts : List Tie) (bond : ByteArray) (back : Bool) (I : List Int) (f : Int → Bool) : cntT ts bond back I (fun _ => true) = cntT ts bond back I f + cntT ts bond back I (fun x => !f x) := by
  unfold cntT
  refine countP_or _ _ _ (fun t => ?_) (fun t => ?_) ts
  · show (decide (t.bond = bond) && (if back then I.contains t.dst else I.contains t.src) && true) = ((decide (t.bond = bond) && (if back then I.contains t.dst else I.contains t.src) && f (endX back t)) || (decide (t.bond = bond) && (if back then I.contains t.dst else I.contains t.src) && !f (endX back t)))
    generalize (decide (t.bond = bond) && (if back then I.contains t.dst else I.contains t.src)) = c
    generalize f (endX back t) = b
    cases c <;> cases b <;> rfl
  · show ¬ ((decide (t.bond = bond) && (if back then I.contains t.dst else I.contains t.src) && f (endX back t)) = true ∧ (decide (t.bond = bond) && (if back then I.contains t.dst else I.contains t.src) && !f (endX back t)) = true)
    generalize (decide (t.bond = bond) && (if back then I.contains t.dst else I.contains t.src)) = c
    generalize f (endX back t) = b
    cases c <;> cases b <;> simp
theorem cntT_turn (ts : List Tie) (bond : ByteArray) (I : List Int) : cntT ts bond false I (fun x => I.contains x) = cntT ts bond true I (fun x => I.contains x) := by
  unfold cntT
  congr 1
  funext t
  unfold endX
  cases decide (t.bond = bond) <;> simp [Bool.and_comm]
/-- As many go out as come in, but for those that lead nowhere. -/
theorem ends_law (ts : List Tie) (bond : ByteArray) (I : List Int) :
    (cntT ts bond false I (fun _ => true) : Int) - cntT ts bond true I (fun _ => true) = cntT ts bond false I (fun x => !I.contains x) - cntT ts bond true I (fun x => !I.contains x) := by
  have h1 := cntT_split ts bond false I (fun x => I.contains x)
  have h2 := cntT_split ts bond true I (fun x => I.contains x)
  have h3 := cntT_turn ts bond I
  omega
theorem take_snoc_ids {l : List Nod} {k : Nat} {n : Nod} (hn : l[k]? = some n) : (idsN l).take (k + 1) = (idsN l).take k ++ [n.id] := by
  rw [List.take_add_one]
  have : (idsN l)[k]? = some n.id := by unfold idsN; rw [List.getElem?_map, hn]; rfl
  rw [this]; rfl
theorem cntT_le (ts : List Tie) (bond : ByteArray) (back : Bool) (I : List Int) (f : Int → Bool) : cntT ts bond back I f ≤ ts.length := List.countP_le_length
end Go.Proofs.Ytpjnbikkhfnjbaa

/- Contract: slices.Sort at whole numbers, at a row of the call's own. No condition. -/
namespace Go.Proofs.Ytpjnbikkhfnjbaa
open Go Go.RowKit Go.Sort Go.Proofs

-- written by sortlay.py for the seat Ytpjnbikkhfnjbaa
def sortLay_ren : Go.Shelf.Ren := ⟨fun | 5 => 56 | 8 => 72 | 7 => 71 | 19 => 89 | 20 => 90 | 10 => 80 | 11 => 81 | 12 => 82 | 13 => 83 | 14 => 84 | 15 => 85 | 16 => 86 | 17 => 87 | 18 => 88 | 30 => 93 | 31 => 94 | 32 => 95 | 33 => 96 | 34 => 97 | 35 => 65 | 40 => 99 | n => n, fun | 23 => 100 | 25 => 3 | 3 => 3 | 32 => 130 | 22 => 100 | 0 => 0 | 44 => 151 | 46 => 153 | 4 => 4 | 36 => 144 | 35 => 143 | 41 => 91 | 5 => 5 | 9 => 9 | 53 => 154 | 57 => 158 | 63 => 161 | 64 => 162 | n => n, fun | n => n⟩
theorem sortLay : Go.Proofs.SlLaysM.n5 Try.prog sortLay_ren := {
  mixed := by kernel_rfl,
  f5 := ⟨Try.f56.name, by decide, Try.func56.trans (congrArg some (by kernel_rfl))⟩,
  f7 := ⟨Try.f71.name, by decide, Try.func71.trans (congrArg some (by kernel_rfl))⟩,
  f8 := Try.func72.trans (congrArg some (by kernel_rfl)),
  f10 := ⟨Try.f80.name, by decide, Try.func80.trans (congrArg some (by kernel_rfl))⟩,
  f11 := ⟨Try.f81.name, by decide, Try.func81.trans (congrArg some (by kernel_rfl))⟩,
  f12 := ⟨Try.f82.name, by decide, Try.func82.trans (congrArg some (by kernel_rfl))⟩,
  f13 := ⟨Try.f83.name, by decide, Try.func83.trans (congrArg some (by kernel_rfl))⟩,
  f14 := ⟨Try.f84.name, by decide, Try.func84.trans (congrArg some (by kernel_rfl))⟩,
  f15 := ⟨Try.f85.name, by decide, Try.func85.trans (congrArg some (by kernel_rfl))⟩,
  f16 := ⟨Try.f86.name, by decide, Try.func86.trans (congrArg some (by kernel_rfl))⟩,
  f17 := ⟨Try.f87.name, by decide, Try.func87.trans (congrArg some (by kernel_rfl))⟩,
  f18 := ⟨Try.f88.name, by decide, Try.func88.trans (congrArg some (by kernel_rfl))⟩,
  f19 := Try.func89.trans (congrArg some (by kernel_rfl)),
  f20 := Try.func90.trans (congrArg some (by kernel_rfl)),
  f30 := ⟨Try.f93.name, by decide, Try.func93.trans (congrArg some (by kernel_rfl))⟩,
  f31 := Try.func94.trans (congrArg some (by kernel_rfl)),
  f32 := Try.func95.trans (congrArg some (by kernel_rfl)),
  f33 := ⟨Try.f96.name, by decide, Try.func96.trans (congrArg some (by kernel_rfl))⟩,
  f34 := ⟨Try.f97.name, by decide, Try.func97.trans (congrArg some (by kernel_rfl))⟩,
  f35 := ⟨Try.f65.name, by decide, Try.func65.trans (congrArg some (by kernel_rfl))⟩,
  f40 := ⟨Try.f99.name, by decide, Try.func99.trans (congrArg some (by kernel_rfl))⟩,
  t0 := Try.underlying0,
  a0 := Try.isAgg0,
  z0 := Try.sizeOf0,
  v0 := Try.zeroValue0,
  t3 := Try.underlying3,
  a3 := Try.isAgg3,
  z3 := Try.sizeOf3,
  v3 := Try.zeroValue3,
  t4 := Try.underlying4,
  a4 := Try.isAgg4,
  z4 := Try.sizeOf4,
  v4 := Try.zeroValue4,
  t5 := Try.underlying5,
  a5 := Try.isAgg5,
  z5 := Try.sizeOf5,
  v5 := Try.zeroValue5,
  t9 := Try.underlying9,
  a9 := Try.isAgg9,
  z9 := Try.sizeOf9,
  v9 := Try.zeroValue9,
  t22 := Try.underlying100,
  a22 := Try.isAgg100,
  z22 := Try.sizeOf100,
  v22 := Try.zeroValue100,
  t23 := Try.underlying100,
  a23 := Try.isAgg100,
  z23 := Try.sizeOf100,
  v23 := Try.zeroValue100,
  t25 := Try.underlying3,
  a25 := Try.isAgg3,
  z25 := Try.sizeOf3,
  v25 := Try.zeroValue3,
  t32 := Try.underlying130,
  a32 := Try.isAgg130,
  z32 := Try.sizeOf130,
  v32 := Try.zeroValue130,
  t35 := Try.underlying143,
  a35 := Try.isAgg143,
  z35 := Try.sizeOf143,
  v35 := Try.zeroValue143,
  t36 := Try.underlying144,
  a36 := Try.isAgg144,
  z36 := Try.sizeOf144,
  v36 := Try.zeroValue144,
  t41 := Try.underlying91,
  a41 := Try.isAgg91,
  z41 := Try.sizeOf91,
  v41 := Try.zeroValue91,
  t44 := Try.underlying151,
  a44 := Try.isAgg151,
  z44 := Try.sizeOf151,
  v44 := Try.zeroValue151,
  t46 := Try.underlying153,
  a46 := Try.isAgg153,
  z46 := Try.sizeOf153,
  v46 := Try.zeroValue153,
  t53 := Try.underlying154,
  a53 := Try.isAgg154,
  z53 := Try.sizeOf154,
  v53 := Try.zeroValue154,
  t57 := Try.underlying158,
  a57 := Try.isAgg158,
  z57 := Try.sizeOf158,
  v57 := Try.zeroValue158,
  t63 := Try.underlying161,
  a63 := Try.isAgg161,
  z63 := Try.sizeOf161,
  v63 := Try.zeroValue161,
  t64 := Try.underlying162,
  a64 := Try.isAgg162,
  z64 := Try.sizeOf162,
  v64 := Try.zeroValue162 }

theorem heap_sorted_at {w : World} {g o n : Nat} {os : Array Obj} {cur : Array Value} {e : TypeId} {fr : Nat × Nat} (d : Array Int) (hb : w.heap[g]? = some (.cells cur e fr)) :
    (grow (putRow (Value.int .i64) (Sort.ahead w n) g o d) os).heap[g]? = some (.cells (putCells (Value.int .i64) o d cur) e fr) := by
  have hg : g < w.heap.size := (Array.getElem?_eq_some_iff.1 hb).1
  rw [heap_grow_old _ _ (by simpa using hg)]
  simp [putRow, mapBlock, Sort.ahead, Array.getElem?_modify, hb, onCells]
theorem grownBy_sorted_at {w : World} {g o n : Nat} {os : Array Obj} (d : Array Int) : w.grownBy (grow (putRow (Value.int .i64) (Sort.ahead w n) g o d) os) (some g) := by
  refine ⟨rfl, rfl, rfl, by simp, fun k hk hne => ?_⟩
  rw [heap_grow_old _ _ (by simpa using hk)]
  have : g ≠ k := fun e => hne (by rw [e])
  simp [putRow, mapBlock, Sort.ahead, Array.getElem?_modify, this]
theorem putCells_at (o : Nat) (cur : Array Value) (ts : List Int) (h : o + ts.length ≤ cur.size) : ((putCells (Value.int .i64) o ts.toArray cur).toList.drop o).take ts.length = ts.map (Value.int .i64) := by
  apply List.ext_getElem?
  intro j
  by_cases hj : j < ts.length
  · rw [List.getElem?_take_of_lt hj, List.getElem?_drop, Array.getElem?_toList]
    simp [putCells, hj, show o + j < cur.size by omega]
  · rw [List.getElem?_take_eq_none (by omega), List.getElem?_eq_none (by simp; omega)]
/-- Sorted, in place. -/
def sortI (l : List Int) : List Int := l.mergeSort fun x y => decide (x ≤ y)
theorem sortI_perm (l : List Int) : (sortI l).Perm l := List.mergeSort_perm _ _
theorem sortI_len (l : List Int) : (sortI l).length = l.length := (sortI_perm l).length_eq
theorem sortInts_any (l : List Int) (v : Value) (B : Nat) (w : World) (h : Own w B 3 1 v l.length (l.map (Value.int .i64))) (hl : l.length < 4611686018427387904) :
    Calls Try.prog 56 #[v] w fun e w' => e = .returned (.tuple #[]) ∧ Own w' B 3 1 v (sortI l).length ((sortI l).map (Value.int .i64)) ∧ w.grownBy w' v.ownBlock := by
  have hlen := sortI_len l
  have hx := h
  rcases h.2 with ⟨rfl, h0⟩ | ⟨g, o, cap, cur, rfl, hb, hg, h1, h2, h3, h4⟩
  · obtain rfl : l = [] := List.length_eq_zero_iff.1 h0
    have hc := AnyM.slices_Sort_int_none sortLay none 0 w
    change Calls Try.prog 56 #[.slice none 0 0] w _ at hc
    refine hc.mono ?_
    rintro e w' ⟨rfl, rfl⟩
    exact ⟨rfl, by simpa [sortI] using hx, grownBy_refl _ _⟩
  · have hH : Holds (Value.int .i64) w g o l.toArray := by
      intro j hj
      have hj' : j < l.length := by simpa using hj
      refine ⟨?_, hx.frozen rfl _⟩
      have := hx.cell rfl (j := j) (u := .int .i64 l[j]) (by simp [hj'])
      rw [this]
      simp [hj']
    have hc := AnyM.slices_Sort_int sortLay g o cap l w hH (Array.getElem?_eq_some_iff.1 hg).1 hl
    change Calls Try.prog 56 #[.slice (some ⟨g, o, none⟩) l.length cap] w _ at hc
    refine hc.mono ?_
    rintro e w' ⟨rfl, n, os, rfl⟩
    refine ⟨rfl, ⟨by simp, .inr ⟨g, o, cap, _, by rw [hlen], hb, heap_sorted_at _ hg, by omega, h2, ?_, ?_⟩⟩, grownBy_sorted_at _⟩
    · have : (putCells (Value.int .i64) o (sortI l).toArray cur).size = cur.size := by simp [putCells]
      show o + cap * 1 ≤ (putCells (Value.int .i64) o (sortI l).toArray cur).size
      omega
    · rw [Nat.mul_one]
      exact putCells_at o cur (sortI l) (by omega)
end Go.Proofs.Ytpjnbikkhfnjbaa

/- Contract: graph.Ends. -/
namespace Go.Proofs.Ytpjnbikkhfnjbaa
open Go Go.RowKit

/-- Ends of ties, in order. -/
def endsS (g : Grf) (id : Int) (bond : ByteArray) (back : Bool) : List Int := sortI (endsL g.ties id bond back)
theorem endsL_len (ts : List Tie) (id : Int) (bond : ByteArray) (back : Bool) : (endsL ts id bond back).length ≤ ts.length := by
  unfold endsL; rw [List.length_map]; exact List.length_filter_le _ _
theorem endsL_take {ts : List Tie} {k : Nat} {t : Tie} (ht : ts[k]? = some t) (id : Int) (bond : ByteArray) (back : Bool) :
    endsL (ts.take (k + 1)) id bond back = endsL (ts.take k) id bond back ++ (if endT back bond id t then [endX back t] else []) := by
  unfold endsL
  rw [List.take_add_one, ht, List.filter_append, List.map_append]
  congr 1
  show ((([t] : List Tie).filter (endT back bond id)).map (endX back)) = _
  rw [List.filter_cons]
  split <;> rfl
theorem endX_i64 {t : Tie} (h : t.ok) (back : Bool) : I64 (endX back t) := by
  unfold endX
  cases back
  · exact h.2.2
  · exact h.2.1
theorem eint_info : (Try.prog.info? 3).map (fun i => (i.zero, i.size, i.bytes)) = some (some (.int .i64 0), 1, 8) := by kernel_rfl
set_option maxRecDepth 100000 in
set_option maxHeartbeats 8000000 in
theorem ends_any (g : Grf) (id : Int) (bond : ByteArray) (back : Bool) (vn vt : Value) (w : World) (hG : GrfR w vn vt g) (hl : g.ties.length ≤ 1000) :
    Calls Try.prog 42 #[.agg #[vn, vt], .int .i64 id, .string bond, .bool back] w fun e w' => ∃ u, e = .returned u ∧ Own w' w.heap.size 3 1 u (endsS g id bond back).length ((endsS g id bond back).map (Value.int .i64)) ∧ (∀ x ∈ endsS g id bond back, I64 x) ∧ Below w.heap.size w w' := by
  obtain ⟨i0, ei, ez, ez1, ez2⟩ := info_parts eint_info
  obtain ⟨An, cn, rfl, _, _⟩ := hG.1.form
  obtain ⟨At, ct, rfl, _, _⟩ := hG.2.form
  have hb0 : Below w.heap.size w (w.alloc (.cells #[.slice An g.nodes.length cn, .slice At g.ties.length ct] 29)) := (Below.refl _ _).alloc (Nat.le_refl _) _
  obtain ⟨x0, x1⟩ := cell_box2 w (.slice An g.nodes.length cn) (.slice At g.ties.length ct) 29
  generalize hW0 : w.alloc (.cells #[.slice An g.nodes.length cn, .slice At g.ties.length ct] 29) = W0 at *
  have HG := Lib.hid (hG.below hb0)
  have hw0 := hb0.size
  have HE : Hid (endsS g id bond back = sortI (endsL g.ties id bond back)) := rfl
  clear hG
  cases back with
  | true =>
    go_enter Try.func42, Try.ntmps42
    go_wp2_with fail
    clear hW0
    go_loopw [9, 15] (fun v i wr => W0.heap.size ≤ wr.heap.size ∧ ∃ k : Nat, k ≤ g.ties.length ∧ i = .int .i64 k ∧ Below W0.heap.size W0 wr ∧ Own wr W0.heap.size 3 1 v (endsL (g.ties.take k) id bond true).length ((endsL (g.ties.take k) id bond true).map (Value.int .i64))) (fun _ i _ => g.ties.length - (intOf i).toNat)
    case atStart => exact ⟨Nat.le_refl _, 0, Nat.zero_le _, rfl, Below.refl _ _, Own.nil _ _ _ _⟩
    case round =>
      -- true: back; t.dst, t.src: what stands in the box
      obtain ⟨hsz, k, hk, rfl, hbr, hown⟩ := hrel
      have y1 := cell_below hbr x1
      have hBr := hb0.trans (hbr.mono hw0)
      obtain ⟨acc, hacc⟩ : ∃ acc, endsL (g.ties.take k) id bond true = acc := ⟨_, rfl⟩
      have hal : acc.length ≤ k := by
        rw [← hacc]
        exact Nat.le_trans (endsL_len _ _ _ _) (by rw [List.length_take]; omega)
      by_cases hlt : k < g.ties.length
      · obtain ⟨t, ht⟩ : ∃ t, g.ties[k]? = some t := ⟨_, List.getElem?_eq_getElem hlt⟩
        have hlt' : (k : Int) < (g.ties.length : Int) := by omega
        obtain ⟨b, o, rfl, htok, z0, z1, z2⟩ := tie_at (HG.out.below hbr).2 ht
        have HS : Hid (endsL (g.ties.take (k + 1)) id bond true = acc ++ if decide (t.bond = bond) && (t.dst == id) then [t.src] else []) := by
          have := endsL_take ht id bond true
          rw [hacc] at this
          exact this
        have HX : Hid (I64 (t.src)) := endX_i64 htok true
        have hbx : Below wr.heap.size wr (wr.alloc (.cells #[.string t.bond, .int .i64 (t.dst), .int .i64 (t.src)] 79)) := (Below.refl _ _).alloc (Nat.le_refl _) _
        obtain ⟨b0, b1, b2⟩ := cell_box3 wr (.string t.bond) (.int .i64 (t.dst)) (.int .i64 (t.src)) 79
        rw [hacc] at hown
        have hn1 : W0.heap.size ≤ (wr.alloc (.cells #[.string t.bond, .int .i64 (t.dst), .int .i64 (t.src)] 79)).heap.size := by simp; omega
        have HN1 := Lib.hid hn1
        clear ht hacc hn1
        go_upto_region 7 with fail
        generalize wr.alloc (.cells #[.string t.bond, .int .i64 (t.dst), .int .i64 (t.src)] 79) = W1 at *
        have hB1 := hbr.trans (hbx.mono hsz)
        have ho1 := hown.below hbx
        by_cases hq : t.bond = bond
        · have hqb : (t.bond.toList == bond.toList) = true := by rw [hq]; simp
          have hqd : decide (t.bond.toList = bond.toList) = true := by rw [hq]; simp
          have hqe : t.bond.toList = bond.toList := by rw [hq]
          have hqf : decide (t.bond = bond) = true := decide_eq_true hq
          by_cases hp : t.dst = id
          · have HS2 : Hid (endsL (g.ties.take (k + 1)) id bond true = acc ++ [t.src]) := by
              unfold Hid
              rw [HS.out, hqf, hp]
              simp
            have hp' : decide (t.dst = id) = true := decide_eq_true hp
            have hp'' : (t.dst == id) = true := by rw [hp]; simp
            clear hq hqf HS z0 z1 z2
            obtain ⟨Ap, cp, rfl, _, _⟩ := hown.form
            have ho2 := ho1.alloc (.cells #[.int .i64 (t.src)] 3)
            go_wp2_with (at_builtin; refine wpList_append_q _ rfl (.tmp 36) (.tmp 39) _ rfl W0.heap.size 3 i0 (.int .i64 0) 1 8 Try.underlying100 ei ez ez1 ez2 rfl (by decide) (.slice Ap acc.length cp) acc.length (acc.map (Value.int .i64)) rfl ho2 (some ⟨W1.heap.size, 0, none⟩) 1 1 [.int .i64 (t.src)] rfl rfl (fun _ => ⟨_, rfl, cell_one_new W1 (.int .i64 (t.src)) 3⟩) (by simp [Value.oneCell']) (by unfold maxLen; omega) (by omega) (by have := HN1.out; simp; omega) ?_; intro v7 w7 hown7 hg7 hat7)
            have hb7 : Below W0.heap.size W0 w7 := (hB1.alloc HN1.out _).grown hg7 (by have := HN1.out; simp; omega) (fun kk hkk => (ho1.lt kk hkk).1)
            have ho7 : Own w7 W0.heap.size 3 1 v7 (acc ++ [t.src]).length ((acc ++ [t.src]).map (Value.int .i64)) := by simpa using hown7
            have hs7 := hb7.size
            clear hg7 hat7 hown7
            go_roundw
            case rel => exact ⟨hs7, k + 1, by omega, by go_num, hb7, by rw [HS2.out]; exact ho7⟩
            case measure => simp [intOf]; omega
          · have HS2 : Hid (endsL (g.ties.take (k + 1)) id bond true = acc) := by
              unfold Hid
              rw [HS.out, hqf]
              simp [hp]
            have hp' : decide (t.dst = id) = false := decide_eq_false hp
            have hp'' : (t.dst == id) = false := by simp [hp]
            clear hq hqf HS z0 z1 z2
            have hs7 := hB1.size
            go_wp2_with fail
            go_roundw
            case rel => exact ⟨hs7, k + 1, by omega, by go_num, hB1, by rw [HS2.out]; exact ho1⟩
            case measure => simp [intOf]; omega
        · have hqb : (t.bond.toList == bond.toList) = false := by rw [bytes_beq]; exact decide_eq_false hq
          have hqc : ¬ t.bond.toList = bond.toList := by rw [bytes_eq]; exact hq
          have HS2 : Hid (endsL (g.ties.take (k + 1)) id bond true = acc) := by
            unfold Hid
            rw [HS.out, decide_eq_false hq]
            simp
          clear hq HS z0 z1 z2
          have hs7 := hB1.size
          go_wp2_with fail
          go_roundw
          case rel => exact ⟨hs7, k + 1, by omega, by go_num, hB1, by rw [HS2.out]; exact ho1⟩
          case measure => simp [intOf]; omega
      · obtain rfl : k = g.ties.length := by omega
        rw [List.take_length] at hacc
        have HAL : Hid (∀ x ∈ acc, I64 x) := fun x hx => by
          rw [← hacc] at hx
          unfold endsL at hx
          obtain ⟨t, ht, rfl⟩ := List.mem_map.1 hx
          obtain ⟨i, hi⟩ := List.mem_iff_getElem?.1 (List.mem_filter.1 ht).1
          obtain ⟨b, o, hv, htok, _⟩ := tie_at HG.out.2 hi
          exact endX_i64 htok _
        have HE2 : Hid (endsS g id bond true = sortI acc) := by unfold Hid; rw [HE.out, hacc]
        rw [List.take_length, hacc] at hown
        have hst := sortInts_any acc _ _ _ hown (by omega)
        obtain ⟨Ap, cp, rfl, _, _⟩ := hown.form
        clear hacc
        go_wp2_with fail
        refine hst.mono ?_
        clear hst
        rintro e w5 ⟨rfl, ho5, hg5⟩
        have hb5 : Below W0.heap.size W0 w5 := hbr.grown hg5 (by omega) (fun kk hkk => (hown.lt kk hkk).1)
        clear hown hg5
        go_wp2_with fail
        go_ret
        refine ⟨_, rfl, ?_, ?_, hb0.trans (hb5.mono hw0)⟩
        · rw [HE2.out]
          rw [sortI_len] at ho5 ⊢
          exact ho5.mono hw0
        · rw [HE2.out]
          exact fun x hx => HAL.out x ((sortI_perm acc).mem_iff.1 hx)
  | false =>
    go_enter Try.func42, Try.ntmps42
    go_wp2_with fail
    clear hW0
    go_loopw [9, 15] (fun v i wr => W0.heap.size ≤ wr.heap.size ∧ ∃ k : Nat, k ≤ g.ties.length ∧ i = .int .i64 k ∧ Below W0.heap.size W0 wr ∧ Own wr W0.heap.size 3 1 v (endsL (g.ties.take k) id bond false).length ((endsL (g.ties.take k) id bond false).map (Value.int .i64))) (fun _ i _ => g.ties.length - (intOf i).toNat)
    case atStart => exact ⟨Nat.le_refl _, 0, Nat.zero_le _, rfl, Below.refl _ _, Own.nil _ _ _ _⟩
    case round =>
      -- false: back; t.src, t.dst: what stands in the box
      obtain ⟨hsz, k, hk, rfl, hbr, hown⟩ := hrel
      have y1 := cell_below hbr x1
      have hBr := hb0.trans (hbr.mono hw0)
      obtain ⟨acc, hacc⟩ : ∃ acc, endsL (g.ties.take k) id bond false = acc := ⟨_, rfl⟩
      have hal : acc.length ≤ k := by
        rw [← hacc]
        exact Nat.le_trans (endsL_len _ _ _ _) (by rw [List.length_take]; omega)
      by_cases hlt : k < g.ties.length
      · obtain ⟨t, ht⟩ : ∃ t, g.ties[k]? = some t := ⟨_, List.getElem?_eq_getElem hlt⟩
        have hlt' : (k : Int) < (g.ties.length : Int) := by omega
        obtain ⟨b, o, rfl, htok, z0, z1, z2⟩ := tie_at (HG.out.below hbr).2 ht
        have HS : Hid (endsL (g.ties.take (k + 1)) id bond false = acc ++ if decide (t.bond = bond) && (t.src == id) then [t.dst] else []) := by
          have := endsL_take ht id bond false
          rw [hacc] at this
          exact this
        have HX : Hid (I64 (t.dst)) := endX_i64 htok false
        have hbx : Below wr.heap.size wr (wr.alloc (.cells #[.string t.bond, .int .i64 (t.src), .int .i64 (t.dst)] 79)) := (Below.refl _ _).alloc (Nat.le_refl _) _
        obtain ⟨b0, b1, b2⟩ := cell_box3 wr (.string t.bond) (.int .i64 (t.src)) (.int .i64 (t.dst)) 79
        rw [hacc] at hown
        have hn1 : W0.heap.size ≤ (wr.alloc (.cells #[.string t.bond, .int .i64 (t.src), .int .i64 (t.dst)] 79)).heap.size := by simp; omega
        have HN1 := Lib.hid hn1
        clear ht hacc hn1
        go_upto_region 7 with fail
        generalize wr.alloc (.cells #[.string t.bond, .int .i64 (t.src), .int .i64 (t.dst)] 79) = W1 at *
        have hB1 := hbr.trans (hbx.mono hsz)
        have ho1 := hown.below hbx
        by_cases hq : t.bond = bond
        · have hqb : (t.bond.toList == bond.toList) = true := by rw [hq]; simp
          have hqd : decide (t.bond.toList = bond.toList) = true := by rw [hq]; simp
          have hqe : t.bond.toList = bond.toList := by rw [hq]
          have hqf : decide (t.bond = bond) = true := decide_eq_true hq
          by_cases hp : t.src = id
          · have HS2 : Hid (endsL (g.ties.take (k + 1)) id bond false = acc ++ [t.dst]) := by
              unfold Hid
              rw [HS.out, hqf, hp]
              simp
            have hp' : decide (t.src = id) = true := decide_eq_true hp
            have hp'' : (t.src == id) = true := by rw [hp]; simp
            clear hq hqf HS z0 z1 z2
            obtain ⟨Ap, cp, rfl, _, _⟩ := hown.form
            have ho2 := ho1.alloc (.cells #[.int .i64 (t.dst)] 3)
            go_wp2_with (at_builtin; refine wpList_append_q _ rfl (.tmp 36) (.tmp 39) _ rfl W0.heap.size 3 i0 (.int .i64 0) 1 8 Try.underlying100 ei ez ez1 ez2 rfl (by decide) (.slice Ap acc.length cp) acc.length (acc.map (Value.int .i64)) rfl ho2 (some ⟨W1.heap.size, 0, none⟩) 1 1 [.int .i64 (t.dst)] rfl rfl (fun _ => ⟨_, rfl, cell_one_new W1 (.int .i64 (t.dst)) 3⟩) (by simp [Value.oneCell']) (by unfold maxLen; omega) (by omega) (by have := HN1.out; simp; omega) ?_; intro v7 w7 hown7 hg7 hat7)
            have hb7 : Below W0.heap.size W0 w7 := (hB1.alloc HN1.out _).grown hg7 (by have := HN1.out; simp; omega) (fun kk hkk => (ho1.lt kk hkk).1)
            have ho7 : Own w7 W0.heap.size 3 1 v7 (acc ++ [t.dst]).length ((acc ++ [t.dst]).map (Value.int .i64)) := by simpa using hown7
            have hs7 := hb7.size
            clear hg7 hat7 hown7
            go_roundw
            case rel => exact ⟨hs7, k + 1, by omega, by go_num, hb7, by rw [HS2.out]; exact ho7⟩
            case measure => simp [intOf]; omega
          · have HS2 : Hid (endsL (g.ties.take (k + 1)) id bond false = acc) := by
              unfold Hid
              rw [HS.out, hqf]
              simp [hp]
            have hp' : decide (t.src = id) = false := decide_eq_false hp
            have hp'' : (t.src == id) = false := by simp [hp]
            clear hq hqf HS z0 z1 z2
            have hs7 := hB1.size
            go_wp2_with fail
            go_roundw
            case rel => exact ⟨hs7, k + 1, by omega, by go_num, hB1, by rw [HS2.out]; exact ho1⟩
            case measure => simp [intOf]; omega
        · have hqb : (t.bond.toList == bond.toList) = false := by rw [bytes_beq]; exact decide_eq_false hq
          have hqc : ¬ t.bond.toList = bond.toList := by rw [bytes_eq]; exact hq
          have HS2 : Hid (endsL (g.ties.take (k + 1)) id bond false = acc) := by
            unfold Hid
            rw [HS.out, decide_eq_false hq]
            simp
          clear hq HS z0 z1 z2
          have hs7 := hB1.size
          go_wp2_with fail
          go_roundw
          case rel => exact ⟨hs7, k + 1, by omega, by go_num, hB1, by rw [HS2.out]; exact ho1⟩
          case measure => simp [intOf]; omega
      · obtain rfl : k = g.ties.length := by omega
        rw [List.take_length] at hacc
        have HAL : Hid (∀ x ∈ acc, I64 x) := fun x hx => by
          rw [← hacc] at hx
          unfold endsL at hx
          obtain ⟨t, ht, rfl⟩ := List.mem_map.1 hx
          obtain ⟨i, hi⟩ := List.mem_iff_getElem?.1 (List.mem_filter.1 ht).1
          obtain ⟨b, o, hv, htok, _⟩ := tie_at HG.out.2 hi
          exact endX_i64 htok _
        have HE2 : Hid (endsS g id bond false = sortI acc) := by unfold Hid; rw [HE.out, hacc]
        rw [List.take_length, hacc] at hown
        have hst := sortInts_any acc _ _ _ hown (by omega)
        obtain ⟨Ap, cp, rfl, _, _⟩ := hown.form
        clear hacc
        go_wp2_with fail
        refine hst.mono ?_
        clear hst
        rintro e w5 ⟨rfl, ho5, hg5⟩
        have hb5 : Below W0.heap.size W0 w5 := hbr.grown hg5 (by omega) (fun kk hkk => (hown.lt kk hkk).1)
        clear hown hg5
        go_wp2_with fail
        go_ret
        refine ⟨_, rfl, ?_, ?_, hb0.trans (hb5.mono hw0)⟩
        · rw [HE2.out]
          rw [sortI_len] at ho5 ⊢
          exact ho5.mono hw0
        · rw [HE2.out]
          exact fun x hx => HAL.out x ((sortI_perm acc).mem_iff.1 hx)
end Go.Proofs.Ytpjnbikkhfnjbaa
