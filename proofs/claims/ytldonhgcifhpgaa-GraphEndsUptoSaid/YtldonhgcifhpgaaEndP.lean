/- Plain: ends of ties of a graph; as many go out as come in, but for those that lead nowhere. No condition. -/
import Derived.Test.YtldonhgcifhpgaaEmptyP
namespace Go.Proofs.Ytldonhgcifhpgaa

def endT (back : Bool) (bond : ByteArray) (id : Int) (t : Tie) : Bool := decide (t.bond = bond) && (if back then t.dst == id else t.src == id)
def endX (back : Bool) (t : Tie) : Int := if back then t.src else t.dst
/-- Ends of ties of a bond at a node, in the order of the ties. -/
def endsL (ts : List Tie) (id : Int) (bond : ByteArray) (back : Bool) : List Int := (ts.filter (endT back bond id)).map (endX back)
theorem endsL_mem {ts : List Tie} {id : Int} {bond : ByteArray} {back : Bool} {x : Int} (h : x ∈ endsL ts id bond back) : id ∈ endsL ts x bond (!back) := by
  unfold endsL at h ⊢
  obtain ⟨t, ht, rfl⟩ := List.mem_map.1 h
  obtain ⟨h1, h2⟩ := List.mem_filter.1 ht
  unfold endT at h2
  simp only [Bool.and_eq_true, decide_eq_true_eq] at h2
  obtain ⟨h3, h4⟩ := h2
  refine List.mem_map.2 ⟨t, List.mem_filter.2 ⟨h1, ?_⟩, ?_⟩
  · unfold endT endX
    cases back <;> simp [h3]
  · unfold endX
    cases back <;> simpa using h4
def idsN (l : List Nod) : List Int := l.map (·.id)
theorem ids_nodup {l : List Nod} (hc : chain nodLt l = true) {k : Nat} {n : Nod} (hn : l[k]? = some n) : n.id ∉ (idsN l).take k := by
  intro h
  obtain ⟨j, hj⟩ := List.mem_iff_getElem?.1 h
  rw [List.getElem?_take] at hj
  split at hj
  · unfold idsN at hj
    rw [List.getElem?_map] at hj
    cases hm : l[j]? with
    | none => rw [hm] at hj; cases hj
    | some m =>
      rw [hm] at hj
      have : m.id = n.id := by simpa using hj
      have := chain_lt2 hc (by assumption : j < k) hm hn
      omega
  · cases hj
theorem ids_has {l : List Nod} (hc : chain nodLt l = true) (id : Int) : fhas l id = decide (id ∈ idsN l) := by
  rw [fhas_any hc, Bool.eq_iff_iff, List.any_eq_true, decide_eq_true_eq]
  unfold idsN
  constructor
  · rintro ⟨n, h1, h2⟩
    exact List.mem_map.2 ⟨n, h1, by simpa using h2⟩
  · intro h
    obtain ⟨n, h1, h2⟩ := List.mem_map.1 h
    exact ⟨n, h1, by simpa using h2⟩
/-- Ties of a bond of which the one end is among some, the other as is asked. -/
def cntT (ts : List Tie) (bond : ByteArray) (back : Bool) (I : List Int) (f : Int → Bool) : Nat :=
  ts.countP fun t => decide (t.bond = bond) && (if back then I.contains t.dst else I.contains t.src) && f (endX back t)
theorem cntT_nil (ts : List Tie) (bond : ByteArray) (back : Bool) (f : Int → Bool) : cntT ts bond back [] f = 0 := by
  unfold cntT
  rw [List.countP_eq_zero]
  intro t _
  cases back <;> simp
theorem countP_or {α : Type} (p q r : α → Bool) (h1 : ∀ a, r a = (p a || q a)) (h2 : ∀ a, ¬ (p a = true ∧ q a = true)) : ∀ l : List α, l.countP r = l.countP p + l.countP q
  | [] => rfl
  | a :: l => by
    rw [List.countP_cons, List.countP_cons, List.countP_cons, countP_or p q r h1 h2 l, h1 a]
    have := h2 a
    cases hp : p a <;> cases hq : q a <;> simp_all <;> omega
theorem cntT_step (ts : List Tie) (bond : ByteArray) (back : Bool) (I : List Int) (id : Int) (f : Int → Bool) (hI : id ∉ I) :
    cntT ts bond back (I ++ [id]) f = cntT ts bond back I f + (endsL ts id bond back).countP f := by
  unfold cntT endsL
  rw [List.countP_map, List.countP_filter]
  refine countP_or _ _ _ (fun t => ?_) (fun t => ?_) ts
  · unfold endT
    cases back <;> simp only [List.contains_append, List.contains_cons, List.contains_nil, Bool.or_false, Function.comp_apply, if_true, if_false, Bool.false_eq_true] <;>
      cases decide (t.bond = bond) <;> simp [Bool.and_or_distrib_right, Bool.and_comm]
  · unfold endT
    cases back <;> (simp only [Function.comp_apply, if_true, if_false, Bool.false_eq_true, Bool.and_eq_true, decide_eq_true_eq, List.contains_iff_mem, beq_iff_eq]; rintro ⟨⟨⟨_, h1⟩, _⟩, _, _, h2⟩; rw [h2] at h1; exact hI h1)
theorem cntT_split (ts : List Tie) (bond : ByteArray) (back : Bool) (I : List Int) (f : Int → Bool) : cntT ts bond back I (fun _ => true) = cntT ts bond back I f + cntT ts bond back I (fun x => !f x) := by
  unfold cntT
  refine countP_or _ _ _ (fun t => ?_) (fun t => ?_) ts
  · show (decide (t.bond = bond) && (if back then I.contains t.dst else I.contains t.src) && true) = ((decide (t.bond = bond) && (if back then I.contains t.dst else I.contains t.src) && f (endX back t)) || (decide (t.bond = bond) && (if back then I.contains t.dst else I.contains t.src) && !f (endX back t)))
    generalize (decide (t.bond = bond) && (if back then I.contains t.dst else I.contains t.src)) = c
    generalize f (endX back t) = b
    cases c <;> cases b <;> rfl
  · show ¬ ((decide (t.bond = bond) && (if back then I.contains t.dst else I.contains t.src) && f (endX back t)) = true ∧ (decide (t.bond = bond) && (if back then I.contains t.dst else I.contains t.src) && !f (endX back t)) = true)
    generalize (decide (t.bond = bond) && (if back then I.contains t.dst else I.contains t.src)) = c
    generalize f (endX back t) = b
    cases c <;> cases b <;> simp
theorem cntT_turn (ts : List Tie) (bond : ByteArray) (I : List Int) : cntT ts bond false I (fun x => I.contains x) = cntT ts bond true I (fun x => I.contains x) := by
  unfold cntT
  congr 1
  funext t
  unfold endX
  cases decide (t.bond = bond) <;> simp [Bool.and_comm]
/-- As many go out as come in, but for those that lead nowhere. -/
theorem ends_law (ts : List Tie) (bond : ByteArray) (I : List Int) :
    (cntT ts bond false I (fun _ => true) : Int) - cntT ts bond true I (fun _ => true) = cntT ts bond false I (fun x => !I.contains x) - cntT ts bond true I (fun x => !I.contains x) := by
  have h1 := cntT_split ts bond false I (fun x => I.contains x)
  have h2 := cntT_split ts bond true I (fun x => I.contains x)
  have h3 := cntT_turn ts bond I
  omega
theorem take_snoc_ids {l : List Nod} {k : Nat} {n : Nod} (hn : l[k]? = some n) : (idsN l).take (k + 1) = (idsN l).take k ++ [n.id] := by
  rw [List.take_add_one]
  have : (idsN l)[k]? = some n.id := by unfold idsN; rw [List.getElem?_map, hn]; rfl
  rw [this]; rfl
theorem cntT_le (ts : List Tie) (bond : ByteArray) (back : Bool) (I : List Int) (f : Int → Bool) : cntT ts bond back I f ≤ ts.length := List.countP_le_length
end Go.Proofs.Ytldonhgcifhpgaa
