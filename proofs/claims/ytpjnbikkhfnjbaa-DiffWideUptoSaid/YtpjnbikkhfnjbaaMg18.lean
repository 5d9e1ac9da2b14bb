/- Parts: ChkP, ChkQ, DwK, DwA, DwB. -/
import Derived.Test.YtpjnbikkhfnjbaaMg16
import Derived.Test.YtpjnbikkhfnjbaaMg11
import Derived.Test.YtpjnbikkhfnjbaaMg17
import Derived.Test.YtpjnbikkhfnjbaaMg06
import Derived.Test.YtpjnbikkhfnjbaaMg15
/- Plain: all faults of a graph, by a schema. No condition. -/
namespace Go.Proofs.Ytpjnbikkhfnjbaa
open Go Go.RowKit

/-- Whether a field is a key that a node has, of its type; which one. -/
def keyOf (n : Nod) (f : Fld) : Option Key := match n.props[rpos n.props f.name]? with
  | some p => if f.key = true ∧ rhas n.props f.name = true ∧ p.v.ty = f.ty then some ⟨f.name, p.v⟩ else none
  | none => none
def keyStep (n : Nod) (acc : List Flt × List Key) (f : Fld) : List Flt × List Key := match keyOf n f with
  | some k => if k ∈ acc.2 then (acc.1 ++ [⟨4, n.id, f.name⟩], acc.2) else (acc.1, acc.2 ++ [k])
  | none => acc
def keysF (n : Nod) (fields : List Fld) (S : List Key) : List Flt × List Key := fields.foldl (keyStep n) ([], S)
def manyF (g : Grf) (n : Nod) (b : Bnd) : Int := ((endsS g n.id b.name false).length : Int)
def bondF (s : Scm) (g : Grf) (n : Nod) (b : Bnd) : List Flt :=
  if isKinB s.kinds n.kind b.src = true then
    (if manyF g n b < b.mn then [⟨7, n.id, b.name⟩] else []) ++ (if 0 ≤ b.mx ∧ b.mx < manyF g n b then [⟨8, n.id, b.name⟩] else [])
  else []
def nodeF (s : Scm) (g : Grf) (S : List Key) (n : Nod) : List Flt × List Key :=
  if kFind s.kinds n.kind < 0 then (aloneF s n, S)
  else (aloneF s n ++ (keysF n (kfl s n.kind) S).1 ++ s.bonds.flatMap (bondF s g n), (keysF n (kfl s n.kind) S).2)
def nodesF (s : Scm) (g : Grf) (l : List Nod) : List Flt × List Key := l.foldl (fun acc n => (acc.1 ++ (nodeF s g acc.2 n).1, (nodeF s g acc.2 n).2)) ([], [])
def tieF (s : Scm) (g : Grf) (t : Tie) : List Flt := match s.bonds[(bFind s.bonds t.bond).toNat]? with
  | some b => if bFind s.bonds t.bond < 0 then [⟨5, t.src, t.bond⟩] else if endB s g t.src b.src = true ∧ endB s g t.dst b.dst = true then [] else [⟨6, t.src, t.bond⟩]
  | none => [⟨5, t.src, t.bond⟩]
/-- All faults. -/
def ofF (s : Scm) (g : Grf) : List Flt := (nodesF s g g.nodes).1 ++ g.ties.flatMap (tieF s g)
theorem nodesF_snoc (s : Scm) (g : Grf) (l : List Nod) (n : Nod) : nodesF s g (l ++ [n]) = ((nodesF s g l).1 ++ (nodeF s g (nodesF s g l).2 n).1, (nodeF s g (nodesF s g l).2 n).2) := by simp [nodesF]
theorem keysF_snoc (n : Nod) (l : List Fld) (f : Fld) (S : List Key) : keysF n (l ++ [f]) S = keyStep n (keysF n l S) f := by simp [keysF]
theorem keyStep_len (n : Nod) (acc : List Flt × List Key) (f : Fld) : (keyStep n acc f).1.length ≤ acc.1.length + 1 := by
  unfold keyStep
  split
  · split <;> simp
  · omega
theorem keysFold_len (n : Nod) : ∀ (l : List Fld) (acc : List Flt × List Key), (l.foldl (keyStep n) acc).1.length ≤ acc.1.length + l.length
  | [], _ => by simp
  | f :: r, acc => by
    have h1 := keysFold_len n r (keyStep n acc f)
    have h2 := keyStep_len n acc f
    simp only [List.foldl_cons, List.length_cons]
    omega
theorem keysF_len (n : Nod) (l : List Fld) (S : List Key) : (keysF n l S).1.length ≤ l.length := by
  have h := keysFold_len n l ([], S)
  simpa [keysF] using h
theorem aloneF_len (s : Scm) (n : Nod) : (aloneF s n).length ≤ n.props.length + (kfl s n.kind).length + 1 := by
  unfold aloneF recF
  split
  · simp
  · have h1 := List.length_filter_le (badF (kfl s n.kind)) n.props
    have h2 := List.length_filter_le (lackF n) (kfl s n.kind)
    simp only [List.length_append, List.length_map]
    omega
end Go.Proofs.Ytpjnbikkhfnjbaa

/- Plain: a graph that conforms: each node is right by itself. No condition. -/
namespace Go.Proofs.Ytpjnbikkhfnjbaa
open Go Go.RowKit

theorem nodeF_alone {s : Scm} {g : Grf} {S : List Key} {n : Nod} (h : (nodeF s g S n).1 = []) : aloneF s n = [] := by
  unfold nodeF at h
  split at h
  · exact h
  · have h1 := (List.append_eq_nil_iff.1 h).1
    exact (List.append_eq_nil_iff.1 h1).1
theorem nodesF_aux {s : Scm} {g : Grf} : ∀ (l : List Nod) (acc : List Flt × List Key), (l.foldl (fun acc n => (acc.1 ++ (nodeF s g acc.2 n).1, (nodeF s g acc.2 n).2)) acc).1 = [] → acc.1 = [] ∧ ∀ n ∈ l, aloneF s n = []
  | [], _, h => ⟨h, by simp⟩
  | n :: r, acc, h => by
    obtain ⟨h1, h2⟩ := nodesF_aux r _ h
    obtain ⟨a1, a2⟩ := List.append_eq_nil_iff.1 h1
    refine ⟨a1, fun m hm => ?_⟩
    rcases List.mem_cons.1 hm with rfl | hm
    · exact nodeF_alone a2
    · exact h2 m hm
theorem ofF_alone {s : Scm} {g : Grf} (h : ofF s g = []) : ∀ n ∈ g.nodes, aloneF s n = [] := by
  unfold ofF at h
  exact (nodesF_aux g.nodes ([], []) (List.append_eq_nil_iff.1 h).1).2
theorem ofF_empty (s : Scm) : ofF s ⟨[], []⟩ = [] := rfl
/-- All that nodes have that are wrong by themselves. -/
def sumA (s : Scm) (l : List Nod) : Nat := (l.map fun n => (aloneF s n).length).sum
theorem sumA_snoc {s : Scm} {l : List Nod} {k : Nat} {n : Nod} (h : l[k]? = some n) : sumA s (l.take (k + 1)) = sumA s (l.take k) + (aloneF s n).length := by
  unfold sumA
  rw [take_snocF h]
  simp
theorem sumA_zero {s : Scm} {l : List Nod} (h : ∀ n ∈ l, aloneF s n = []) : sumA s l = 0 := by
  unfold sumA
  induction l with
  | nil => rfl
  | cons n r ih =>
    have h1 := h n (by simp)
    have h2 := ih (fun m hm => h m (by simp [hm]))
    simp [h1, h2]
theorem sumA_le {s : Scm} {b : Nat} : ∀ {l : List Nod}, (∀ n ∈ l, (aloneF s n).length ≤ b) → sumA s l ≤ l.length * b
  | [], _ => by simp [sumA]
  | n :: r, h => by
    have h1 := h n (by simp)
    have h2 := sumA_le (l := r) (fun m hm => h m (by simp [hm]))
    unfold sumA at h2 ⊢
    simp only [List.map_cons, List.sum_cons, List.length_cons, Nat.succ_mul]
    omega
/-- A schema that is right: each kind's fields are few. -/
theorem kfl_len {s : Scm} (h : Right s.kinds) (nm : ByteArray) : (kfl s nm).length ≤ 8 := by
  unfold kfl
  split
  · simp
  · rename_i hk
    obtain ⟨i, k, _, hk2, hk3, _⟩ := kFind_pos (by omega : 0 ≤ kFind s.kinds nm)
    obtain ⟨fs, h1, h2⟩ := h.fields (List.mem_of_getElem? hk2)
    rw [hk3] at h1
    rw [h1]
    exact h2
theorem flat_le {D E : Type} {f : D → List E} {c : Nat} : ∀ {l : List D}, (∀ x ∈ l, (f x).length ≤ c) → (l.flatMap f).length ≤ l.length * c
  | [], _ => by simp
  | x :: r, h => by
    have h1 := h x (by simp)
    have h2 := flat_le (l := r) (fun y hy => h y (by simp [hy]))
    simp only [List.flatMap_cons, List.length_append, List.length_cons, Nat.succ_mul]
    omega
theorem bondF_len (s : Scm) (g : Grf) (n : Nod) (b : Bnd) : (bondF s g n b).length ≤ 2 := by
  unfold bondF
  split
  · rw [List.length_append]
    split <;> split <;> simp
  · simp
theorem nodeF_len {s : Scm} {g : Grf} {S : List Key} {n : Nod} (hp : n.props.length ≤ 8) (hk : (kfl s n.kind).length ≤ 8) (hb : s.bonds.length ≤ 12) : (nodeF s g S n).1.length ≤ 60 := by
  have h1 := aloneF_len s n
  have h2 := keysF_len n (kfl s n.kind) S
  have h3 := flat_le (l := s.bonds) (f := bondF s g n) (c := 2) (fun b _ => bondF_len s g n b)
  unfold nodeF
  split
  · show (aloneF s n).length ≤ 60
    omega
  · simp only [List.length_append]
    omega
theorem nodesF_len {s : Scm} {g : Grf} (hk : ∀ nm, (kfl s nm).length ≤ 8) (hb : s.bonds.length ≤ 12) : ∀ (l : List Nod) (acc : List Flt × List Key), (∀ n ∈ l, n.props.length ≤ 8) → (l.foldl (fun acc n => (acc.1 ++ (nodeF s g acc.2 n).1, (nodeF s g acc.2 n).2)) acc).1.length ≤ acc.1.length + l.length * 60
  | [], _, _ => by simp
  | n :: r, acc, h => by
    have h1 := nodesF_len (g := g) hk hb r (acc.1 ++ (nodeF s g acc.2 n).1, (nodeF s g acc.2 n).2) (fun m hm => h m (by simp [hm]))
    have h2 := nodeF_len (g := g) (S := acc.2) (h n (by simp)) (hk n.kind) hb
    simp only [List.length_append] at h1
    simp only [List.foldl_cons, List.length_cons, Nat.succ_mul]
    omega
theorem nodesF_le {s : Scm} {g : Grf} (hk : ∀ nm, (kfl s nm).length ≤ 8) (hb : s.bonds.length ≤ 12) (h : ∀ n ∈ g.nodes, n.props.length ≤ 8) (k : Nat) : (nodesF s g (g.nodes.take k)).1.length ≤ k * 60 := by
  have h1 := nodesF_len (g := g) hk hb (g.nodes.take k) ([], []) (fun n hn => h n (List.mem_of_mem_take hn))
  have h2 : (g.nodes.take k).length ≤ k := by rw [List.length_take]; omega
  have h3 : (nodesF s g (g.nodes.take k)).1.length ≤ 0 + (g.nodes.take k).length * 60 := h1
  have h4 : (g.nodes.take k).length * 60 ≤ k * 60 := Nat.mul_le_mul_right _ h2
  omega
theorem tieF_len (s : Scm) (g : Grf) (t : Tie) : (tieF s g t).length ≤ 1 := by
  unfold tieF
  split
  · split
    · simp
    · split <;> simp
  · simp
theorem tieF_le (s : Scm) (g : Grf) (k : Nat) : ((g.ties.take k).flatMap (tieF s g)).length ≤ k := by
  have h1 := flat_le (l := g.ties.take k) (f := tieF s g) (c := 1) (fun t _ => tieF_len s g t)
  have h2 : (g.ties.take k).length ≤ k := by rw [List.length_take]; omega
  omega
/-- The fields that are keys. -/
theorem keyOf_none {n : Nod} {f : Fld} (h : f.key = false ∨ rhas n.props f.name = false) : keyOf n f = none := by
  unfold keyOf
  split
  · rw [if_neg]
    rintro ⟨h1, h2, _⟩
    rcases h with h | h
    · rw [h] at h1; cases h1
    · rw [h] at h2; cases h2
  · rfl
theorem keyOf_at {n : Nod} {f : Fld} {p : Prp} (h1 : f.key = true) (h2 : rhas n.props f.name = true) (hp : n.props[rpos n.props f.name]? = some p) : keyOf n f = if p.v.ty = f.ty then some ⟨f.name, p.v⟩ else none := by
  unfold keyOf
  rw [hp]
  simp [h1, h2]
end Go.Proofs.Ytpjnbikkhfnjbaa

/- Plain: the fields of a kind; a node by itself; keys. No condition. -/
namespace Go.Proofs.Ytpjnbikkhfnjbaa
open Go Go.RowKit

/-- The one kind of a name. -/
theorem Wf.uniq {l : List Knd} (hw : Wf l) {x y : Knd} (hx : x ∈ l) (hy : y ∈ l) (he : x.name = y.name) : x = y := by
  obtain ⟨i, hi⟩ := List.mem_iff_getElem?.1 hx
  obtain ⟨j, hj⟩ := List.mem_iff_getElem?.1 hy
  rcases Nat.lt_trichotomy i j with h | h | h
  · exact absurd he ((hw j y hj).1 i x h hi)
  · subst h; rw [hi] at hj; injection hj
  · exact absurd he.symm ((hw i x hi).1 j y h hj)
theorem fldsFor_of {l : List Knd} (hw : Wf l) {k : Knd} (hk : k ∈ l) : fldsFor l k.name = k.fields := by
  unfold fldsFor
  cases h : l.find? (fun x => decide (x.name = k.name)) with
  | none => rw [List.find?_eq_none] at h; exact absurd (h k hk) (by simp)
  | some d =>
    have h1 := List.mem_of_find?_eq_some h
    have h2 := List.find?_some h
    simp only [decide_eq_true_eq] at h2
    rw [hw.uniq h1 hk h2]
theorem allF_rise : ∀ {fs acc out : List Fld}, fs.foldlM putF acc = some out → Rise acc → Rise out
  | [], acc, out, h, hr => by
    simp only [List.foldlM_nil] at h
    injection h with h; subst h; exact hr
  | f :: fs, acc, out, h, hr => by
    rw [List.foldlM_cons] at h
    cases hp : putF acc f with
    | none => rw [hp] at h; cases h
    | some acc' => rw [hp] at h; exact allF_rise (show fs.foldlM putF acc' = some out from h) (putF_rise hr hp)
theorem Rise.uniq {l : List Fld} (h : Rise l) {x y : Fld} (hx : x ∈ l) (hy : y ∈ l) (he : x.name = y.name) : x = y := by
  obtain ⟨i, hi, rfl⟩ := List.mem_iff_getElem.1 hx
  obtain ⟨j, hj, rfl⟩ := List.mem_iff_getElem.1 hy
  rcases Nat.lt_trichotomy i j with h' | h' | h'
  · have := List.pairwise_iff_getElem.1 h i j hi hj h'
    rw [he, cmpS_zero.2 rfl] at this; omega
  · subst h'; rfl
  · have := List.pairwise_iff_getElem.1 h j i hj hi h'
    rw [he, cmpS_zero.2 rfl] at this; omega
/-- A kind's fields, of kinds that are right. -/
theorem kfl_some {s : Scm} (h : Right s.kinds) {k : Knd} (hk : k ∈ s.kinds) : fieldsOf s.kinds k.name = some (kfl s k.name) := by
  obtain ⟨fs, h1, _⟩ := h.fields hk
  unfold kfl
  rw [if_neg (by have := kFind_mem hk; omega), h1]
  rfl
theorem kfl_rise {s : Scm} (h : Right s.kinds) {k : Knd} (hk : k ∈ s.kinds) : Rise (kfl s k.name) :=
  allF_rise (kfl_some h hk) List.Pairwise.nil
theorem kfl_mem {s : Scm} (h : Right s.kinds) {k : Knd} (hk : k ∈ s.kinds) (x : Fld) : x ∈ kfl s k.name ↔ ∃ d ∈ s.kinds, d.name ∈ kinL s.kinds k.name ∧ x ∈ d.fields := by
  rw [fieldsOf_mem (kfl_some h hk)]
  constructor
  · rintro ⟨nm, h1, h2⟩
    obtain ⟨⟨d, hd, rfl⟩, _⟩ := mem_kinL.1 h1
    rw [fldsFor_of h.wf hd] at h2
    exact ⟨d, hd, h1, h2⟩
  · rintro ⟨d, hd, h1, h2⟩
    exact ⟨d.name, h1, by rw [fldsFor_of h.wf hd]; exact h2⟩
theorem tyF_aux (s : ByteArray) : ∀ (fs : List Fld) (F : ByteArray → Int), ((fs.foldl (fun F f => fun s => if f.name = s then f.ty else F s) F) s = F s ∧ ∀ f ∈ fs, f.name ≠ s) ∨ ∃ f ∈ fs, f.name = s ∧ (fs.foldl (fun F f => fun s => if f.name = s then f.ty else F s) F) s = f.ty
  | [], F => .inl ⟨rfl, by simp⟩
  | f :: r, F => by
    rcases tyF_aux s r (fun s => if f.name = s then f.ty else F s) with ⟨h1, h2⟩ | ⟨x, hx, h1, h2⟩
    · by_cases h : f.name = s
      · exact .inr ⟨f, by simp, h, by rw [List.foldl_cons, h1, if_pos h]⟩
      · exact .inl ⟨by rw [List.foldl_cons, h1, if_neg h], fun x hx => by
          rcases List.mem_cons.1 hx with rfl | hx
          · exact h
          · exact h2 x hx⟩
    · exact .inr ⟨x, by simp [hx], h1, h2⟩
theorem tyF_cases (fs : List Fld) (s : ByteArray) : (tyF fs s = 0 ∧ ∀ f ∈ fs, f.name ≠ s) ∨ ∃ f ∈ fs, f.name = s ∧ tyF fs s = f.ty := tyF_aux s fs _
theorem firstE_zero {D : Type} {f : D → Int} : ∀ {l : List D}, firstE f l = 0 → ∀ x ∈ l, f x = 0
  | [], _, _, h => by cases h
  | d :: r, h, x, hx => by
    rw [firstE] at h
    split at h
    · rename_i h0
      rcases List.mem_cons.1 hx with rfl | hx
      · exact h0
      · exact firstE_zero h x hx
    · rename_i h0; exact absurd h h0
theorem nodE_types {n : Nod} (h : nodE n = 0) : ∀ p ∈ n.props, p.v.ty ≠ 0 := by
  have h1 : recE n.props = 0 := by
    unfold nodE at h
    split at h
    · omega
    · split at h
      · exact h
      · rename_i h0; exact absurd h h0
  have h2 : firstE prpE n.props = 0 := by
    unfold recE at h1
    split at h1
    · omega
    · split at h1
      · assumption
      · rename_i h0; exact absurd h1 h0
  intro p hp e
  have h3 := firstE_zero h2 p hp
  have h4 : valE p.v = 0 := by
    unfold prpE at h3
    split at h3
    · exact h3
    · rename_i h0; exact absurd h3 h0
  unfold valE at h4
  rw [e] at h4
  simp at h4
theorem recF_nil {fs : List Fld} {n : Nod} : recF fs n = [] ↔ (∀ p ∈ n.props, tyF fs p.name = p.v.ty) ∧ ∀ f ∈ fs, f.must = true → rhas n.props f.name = true := by
  unfold recF
  rw [List.append_eq_nil_iff, List.map_eq_nil_iff, List.map_eq_nil_iff, List.filter_eq_nil_iff, List.filter_eq_nil_iff]
  unfold badF lackF
  simp
theorem aloneF_kind {s : Scm} {n : Nod} (h : aloneF s n = []) : ∃ k ∈ s.kinds, k.name = n.kind := by
  unfold aloneF at h
  split at h
  · cases h
  · rename_i h0
    obtain ⟨i, k, _, h2, h3, _⟩ := kFind_pos (by omega : 0 ≤ kFind s.kinds n.kind)
    exact ⟨k, List.mem_of_getElem? h2, h3⟩
theorem aloneF_rec {s : Scm} {n : Nod} (hk : ∃ k ∈ s.kinds, k.name = n.kind) : aloneF s n = recF (kfl s n.kind) n := by
  obtain ⟨k, h1, h2⟩ := hk
  have := kFind_mem h1
  rw [h2] at this
  unfold aloneF
  rw [if_neg (by omega)]
theorem keyOf_iff {n : Nod} {f : Fld} {k : Key} : keyOf n f = some k ↔ f.key = true ∧ rhas n.props f.name = true ∧ ∃ p, n.props[rpos n.props f.name]? = some p ∧ p.v.ty = f.ty ∧ k = ⟨f.name, p.v⟩ := by
  unfold keyOf
  split
  · rename_i p hp
    constructor
    · intro h
      split at h
      · rename_i h0; injection h with h; exact ⟨h0.1, h0.2.1, p, hp, h0.2.2, h.symm⟩
      · cases h
    · rintro ⟨h1, h2, q, hq, h3, rfl⟩
      rw [hp] at hq; injection hq with hq; subst hq
      rw [if_pos ⟨h1, h2, h3⟩]
  · rename_i hp
    constructor
    · intro h; cases h
    · rintro ⟨_, _, q, hq, _⟩; rw [hp] at hq; cases hq
theorem rhas_get {r : List Prp} {nm : ByteArray} (h : rhas r nm = true) {p : Prp} (hp : r[rpos r nm]? = some p) : p.name = nm := by
  unfold rhas eqAt at h
  rw [hp] at h
  have : prpC nm p = 0 := by simpa using h
  exact cmpS_zero.1 this
end Go.Proofs.Ytpjnbikkhfnjbaa

/- Plain: of a schema that is as wide: kinship and fields. No condition. -/
namespace Go.Proofs.Ytpjnbikkhfnjbaa

theorem kindW_get {l : List Knd} {k : Knd} (h : kindW l k = true) : ∃ (i : Nat) (d : Knd), l[i]? = some d ∧ d.name = k.name ∧ k.ofs = d.ofs ∧ fieldsW k.fields d.fields = true := by
  unfold kindW at h
  split at h
  · rename_i d hd
    simp only [Bool.and_eq_true, Bool.not_eq_true', decide_eq_false_iff_not, decide_eq_true_eq] at h
    obtain ⟨⟨h1, h2⟩, h3⟩ := h
    obtain ⟨i, e, e1, e2, e3, _⟩ := kFind_pos (l := l) (s := k.name) (by omega)
    rw [e1, Int.toNat_natCast, e2] at hd
    injection hd with hd; subst hd
    exact ⟨i, e, e2, e3, h2, h3⟩
  · cases h
theorem bondW_get {l : List Bnd} {k : Bnd} (h : bondW l k = true) : ∃ (i : Nat) (d : Bnd), l[i]? = some d ∧ d.name = k.name ∧ bondW1 k d = true := by
  unfold bondW at h
  split at h
  · rename_i d hd
    simp only [Bool.and_eq_true, Bool.not_eq_true', decide_eq_false_iff_not] at h
    obtain ⟨h1, h2⟩ := h
    obtain ⟨i, e, e1, e2, e3, _⟩ := bFind_pos (l := l) (s := k.name) (by omega)
    rw [e1, Int.toNat_natCast, e2] at hd
    injection hd with hd; subst hd
    exact ⟨i, e, e2, e3, h2⟩
  · cases h
theorem fFind_neg {l : List Fld} {s : ByteArray} (h : fFind l s < 0) : ∀ f ∈ l, f.name ≠ s := by
  intro k hk e
  have : l.any (fun k => decide (k.name = s)) = true := List.any_eq_true.2 ⟨k, hk, by simpa using e⟩
  rw [← idxI_any] at this
  have h2 : idxI (fun k : Fld => decide (k.name = s)) l < 0 := h
  simp at this
  omega
theorem fFind_pos {l : List Fld} {s : ByteArray} (h : 0 ≤ fFind l s) : ∃ (i : Nat) (k : Fld), fFind l s = i ∧ l[i]? = some k ∧ k.name = s := by
  obtain ⟨i, k, h1, h2, h3, _⟩ := idxI_nonneg h
  exact ⟨i, k, h1, h2, by simpa using h3⟩
/-- What a field of the wider one may be. -/
def FldW (x y : Fld) : Prop := y.name = x.name ∧ y.ty = x.ty ∧ (y.must = true → x.must = true) ∧ (y.key = true → x.key = true)
theorem fieldsW_get {a b : List Fld} (h : fieldsW a b = true) : (∀ x ∈ a, ∃ y ∈ b, FldW x y) ∧ ∀ y ∈ b, y.must = true → ∃ x ∈ a, x.name = y.name := by
  unfold fieldsW at h
  simp only [Bool.and_eq_true, List.all_eq_true, Bool.not_eq_true', List.any_eq_false] at h
  refine ⟨fun x hx => ?_, fun y hy hm => ?_⟩
  · have hf := h.1 x hx
    unfold okF at hf
    split at hf
    · rename_i d hd
      simp only [Bool.and_eq_true, Bool.not_eq_true', decide_eq_false_iff_not, decide_eq_true_eq, Bool.and_eq_false_imp] at hf
      obtain ⟨⟨⟨h1, h2⟩, h3⟩, h4⟩ := hf
      obtain ⟨i, e, e1, e2, e3⟩ := fFind_pos (l := b) (s := x.name) (by omega)
      rw [e1, Int.toNat_natCast, e2] at hd
      injection hd with hd; subst hd
      refine ⟨e, List.mem_of_getElem? e2, e3, h2, fun hm => ?_, fun hk => ?_⟩
      · simpa using h3 hm
      · simpa using h4 hk
    · cases hf
  · have : 0 ≤ fFind a y.name := by simpa [hm] using h.2 y hy
    obtain ⟨i, e, _, e2, e3⟩ := fFind_pos (l := a) (s := y.name) (by omega)
    exact ⟨e, List.mem_of_getElem? e2, e3⟩
theorem BDist.uniq {l : List Bnd} (hw : BDist l) {x y : Bnd} (hx : x ∈ l) (hy : y ∈ l) (he : x.name = y.name) : x = y := by
  obtain ⟨i, hi⟩ := List.mem_iff_getElem?.1 hx
  obtain ⟨j, hj⟩ := List.mem_iff_getElem?.1 hy
  rcases Nat.lt_trichotomy i j with h | h | h
  · exact absurd he (hw j i y x h hj hi)
  · subst h; rw [hi] at hj; injection hj
  · exact absurd he.symm (hw i j x y h hi hj)
/-- Kinship is the same. -/
theorem kin_wide {a b : List Knd} (ha : Wf a) (hb : Wf b) (hw : ∀ x ∈ a, kindW b x = true) {nm : ByteArray} (hn : ∃ k ∈ a, k.name = nm) (s : ByteArray) : s ∈ kinL a nm ↔ s ∈ kinL b nm := by
  have h1 : ∀ s, kinSet a nm s = true → kinSet b nm s = true := by
    intro s hs
    rw [kinSet_eq] at hs
    refine kinFrom_least (T := kinSet b nm) (fun k hk hT o ho => ?_) (fun s hs => ?_) s hs
    · obtain ⟨i, d, hd, e1, e2, _⟩ := kindW_get (hw k hk)
      exact kinSet_closed hb nm d (List.mem_of_getElem? hd) (by rw [e1]; exact hT) o (by rw [← e2]; exact ho)
    · simp at hs; subst hs; exact kinSet_self _ _
  have h0 : ∀ s, kinSet a nm s = true → ∃ k ∈ a, k.name = s := by
    intro s hs
    rw [kinSet_eq] at hs
    rcases kinFrom_inv hs with h | ⟨k, hk, ho⟩
    · simp at h; subst h; exact hn
    · obtain ⟨i, hi⟩ := List.mem_iff_getElem?.1 hk
      obtain ⟨j, x, _, h2, h3⟩ := (ha i k hi).2 s ho
      exact ⟨x, List.mem_of_getElem? h2, h3⟩
  have h2 : ∀ s, kinSet b nm s = true → kinSet a nm s = true := by
    intro s hs
    rw [kinSet_eq] at hs
    refine kinFrom_least (T := kinSet a nm) (fun d hd hT o ho => ?_) (fun s hs => ?_) s hs
    · obtain ⟨k, hk, e⟩ := h0 _ hT
      obtain ⟨i, d', hd', e1, e2, _⟩ := kindW_get (hw k hk)
      have : d' = d := hb.uniq (List.mem_of_getElem? hd') hd (by rw [e1, e])
      subst this
      exact kinSet_closed ha nm k hk (by rw [e]; exact hT) o (by rw [e2]; exact ho)
    · simp at hs; subst hs; exact kinSet_self _ _
  rw [mem_kinL, mem_kinL]
  constructor
  · rintro ⟨⟨k, hk, rfl⟩, h⟩
    obtain ⟨i, d, hd, e1, _, _⟩ := kindW_get (hw k hk)
    exact ⟨⟨d, List.mem_of_getElem? hd, e1⟩, h1 _ h⟩
  · rintro ⟨_, h⟩
    exact ⟨h0 _ (h2 _ h), h2 _ h⟩
/-- The fields of one kind, in the two. -/
theorem kfl_wide {a b : Scm} (ha : Right a.kinds) (hb : Right b.kinds) (hw : ∀ x ∈ a.kinds, kindW b.kinds x = true) {k : Knd} (hk : k ∈ a.kinds) :
    (∀ x ∈ kfl a k.name, ∃ y ∈ kfl b k.name, FldW x y) ∧ (∀ y ∈ kfl b k.name, y.must = true → ∃ x ∈ kfl a k.name, x.name = y.name) ∧ ∃ d ∈ b.kinds, d.name = k.name := by
  obtain ⟨i, kb, hkb, e1, _, _⟩ := kindW_get (hw k hk)
  have hkb := List.mem_of_getElem? hkb
  have hkin := kin_wide ha.wf hb.wf hw ⟨k, hk, rfl⟩
  refine ⟨fun x hx => ?_, fun y hy hm => ?_, kb, hkb, e1⟩
  · obtain ⟨d, hd, h1, h2⟩ := (kfl_mem ha hk x).1 hx
    obtain ⟨j, d', hd', f1, _, f3⟩ := kindW_get (hw d hd)
    obtain ⟨y, hy, hxy⟩ := (fieldsW_get f3).1 x h2
    refine ⟨y, ?_, hxy⟩
    rw [← e1]
    exact (kfl_mem hb hkb y).2 ⟨d', List.mem_of_getElem? hd', by rw [f1, e1]; exact (hkin _).1 h1, hy⟩
  · rw [← e1] at hy
    obtain ⟨d, hd, h1, h2⟩ := (kfl_mem hb hkb y).1 hy
    rw [e1] at h1
    obtain ⟨⟨d0, hd0, e0⟩, _⟩ := mem_kinL.1 ((hkin _).2 h1)
    obtain ⟨j, d', hd', f1, _, f3⟩ := kindW_get (hw d0 hd0)
    have : d' = d := hb.wf.uniq (List.mem_of_getElem? hd') hd (by rw [f1, e0])
    subst this
    obtain ⟨x, hx, e⟩ := (fieldsW_get f3).2 y h2 hm
    exact ⟨x, (kfl_mem ha hk x).2 ⟨d0, hd0, (hkin _).2 (by rw [e0]; exact h1), hx⟩, e⟩
end Go.Proofs.Ytpjnbikkhfnjbaa

/- Plain: what conforms to a schema conforms to one that is as wide. No condition. -/
namespace Go.Proofs.Ytpjnbikkhfnjbaa
open Go Go.RowKit

theorem alone_wide {a b : Scm} (ha : Right a.kinds) (hb : Right b.kinds) (hw : ∀ x ∈ a.kinds, kindW b.kinds x = true) {n : Nod} (hn : nodE n = 0) (h : aloneF a n = []) : aloneF b n = [] := by
  obtain ⟨k, hk, e⟩ := aloneF_kind h
  rw [aloneF_rec ⟨k, hk, e⟩, recF_nil] at h
  obtain ⟨f1, f2, d, hd, hdn⟩ := kfl_wide ha hb hw hk
  have hr := kfl_rise hb hd
  rw [hdn] at hr
  rw [e] at f1 f2 hdn hr
  rw [aloneF_rec ⟨d, hd, hdn⟩, recF_nil]
  refine ⟨fun p hp => ?_, fun y hy hm => ?_⟩
  · have hp1 := h.1 p hp
    rcases tyF_cases (kfl a n.kind) p.name with ⟨h1, _⟩ | ⟨x, hx, h1, h2⟩
    · exact absurd (hp1.symm.trans h1) (nodE_types hn p hp)
    · obtain ⟨y, hy, hxy⟩ := f1 x hx
      rcases tyF_cases (kfl b n.kind) p.name with ⟨_, h4⟩ | ⟨z, hz, h3, h4⟩
      · exact absurd (hxy.1.trans h1) (h4 y hy)
      · rw [h4, ← hp1, h2, hr.uniq hz hy (by rw [h3, hxy.1, h1]), hxy.2.1]
  · obtain ⟨x, hx, h1⟩ := f2 y hy hm
    obtain ⟨z, hz, hxz⟩ := f1 x hx
    have : z = y := hr.uniq hz hy (by rw [hxz.1, h1])
    subst this
    rw [hxz.1]
    exact h.2 x hx (hxz.2.2.1 hm)

def keyL (s : Scm) (n : Nod) : List Key := (kfl s n.kind).filterMap (keyOf n)
theorem keys_fold (n : Nod) : ∀ (l : List Fld) (acc : List Flt × List Key), acc.2.Nodup →
    ((l.foldl (keyStep n) acc).1 = [] ↔ acc.1 = [] ∧ (acc.2 ++ l.filterMap (keyOf n)).Nodup) ∧ ((l.foldl (keyStep n) acc).1 = [] → (l.foldl (keyStep n) acc).2 = acc.2 ++ l.filterMap (keyOf n))
  | [], acc, h => by simp [h]
  | f :: r, acc, h => by
    rw [List.foldl_cons]
    cases hk : keyOf n f with
    | none =>
      have : keyStep n acc f = acc := by unfold keyStep; rw [hk]
      rw [this, List.filterMap_cons_none hk]
      exact keys_fold n r acc h
    | some k =>
      rw [List.filterMap_cons_some hk]
      by_cases hm : k ∈ acc.2
      · have e : keyStep n acc f = (acc.1 ++ [⟨4, n.id, f.name⟩], acc.2) := by unfold keyStep; rw [hk]; simp [hm]
        have ih := keys_fold n r (acc.1 ++ [⟨4, n.id, f.name⟩], acc.2) h
        have hno : (r.foldl (keyStep n) (keyStep n acc f)).1 ≠ [] := by
          rw [e]; intro h0; have := (ih.1.1 h0).1; simp at this
        refine ⟨⟨fun h0 => absurd h0 hno, fun h0 => ?_⟩, fun h0 => absurd h0 hno⟩
        have := (List.nodup_append.1 h0.2).2.2 k hm k (by simp)
        exact absurd rfl this
      · have e : keyStep n acc f = (acc.1, acc.2 ++ [k]) := by unfold keyStep; rw [hk]; simp [hm]
        have ih := keys_fold n r (acc.1, acc.2 ++ [k]) (List.nodup_append.2 ⟨h, by simp, fun a ha b hb => by
          simp at hb; subst hb; intro e; subst e; exact hm ha⟩)
        rw [e]
        simpa using ih
theorem node_fold (s : Scm) (g : Grf) (S : List Key) (n : Nod) (h : S.Nodup) :
    ((nodeF s g S n).1 = [] ↔ aloneF s n = [] ∧ s.bonds.flatMap (bondF s g n) = [] ∧ (S ++ keyL s n).Nodup) ∧ ((nodeF s g S n).1 = [] → (nodeF s g S n).2 = S ++ keyL s n) := by
  unfold nodeF keyL
  by_cases hk : kFind s.kinds n.kind < 0
  · rw [if_pos hk]
    have hne : aloneF s n ≠ [] := by unfold aloneF; rw [if_pos hk]; simp
    exact ⟨⟨fun h => absurd h hne, fun h => absurd h.1 hne⟩, fun h => absurd h hne⟩
  · rw [if_neg hk]
    have hf := keys_fold n (kfl s n.kind) ([], S) h
    have hf' : (keysF n (kfl s n.kind) S).1 = [] ↔ (S ++ (kfl s n.kind).filterMap (keyOf n)).Nodup := by
      have := hf.1; simpa [keysF] using this
    constructor
    · simp only [List.append_eq_nil_iff]
      rw [hf']
      constructor
      · rintro ⟨⟨h1, h2⟩, h3⟩; exact ⟨h1, h3, h2⟩
      · rintro ⟨h1, h3, h2⟩; exact ⟨⟨h1, h2⟩, h3⟩
    · intro h0
      simp only [List.append_eq_nil_iff] at h0
      exact hf.2 h0.1.2
theorem nodes_fold (s : Scm) (g : Grf) : ∀ (l : List Nod) (acc : List Flt × List Key), acc.2.Nodup →
    ((l.foldl (fun acc n => (acc.1 ++ (nodeF s g acc.2 n).1, (nodeF s g acc.2 n).2)) acc).1 = [] ↔ acc.1 = [] ∧ (∀ n ∈ l, aloneF s n = [] ∧ s.bonds.flatMap (bondF s g n) = []) ∧ (acc.2 ++ l.flatMap (keyL s)).Nodup)
  | [], acc, h => by simp [h]
  | n :: r, acc, h => by
    rw [List.foldl_cons]
    have hf := node_fold s g acc.2 n h
    by_cases h1 : (nodeF s g acc.2 n).1 = []
    · obtain ⟨a1, a2, a3⟩ := hf.1.1 h1
      have e := hf.2 h1
      rw [h1, e, List.append_nil, nodes_fold s g r (acc.1, acc.2 ++ keyL s n) a3]
      constructor
      · rintro ⟨b1, b2, b3⟩
        refine ⟨b1, fun m hm => ?_, by simpa using b3⟩
        rcases List.mem_cons.1 hm with rfl | hm
        · exact ⟨a1, a2⟩
        · exact b2 m hm
      · rintro ⟨b1, b2, b3⟩
        exact ⟨b1, fun m hm => b2 m (by simp [hm]), by simpa using b3⟩
    · constructor
      · intro h0
        have := (nodesF_aux r _ h0).1
        exact absurd (List.append_eq_nil_iff.1 this).2 h1
      · rintro ⟨b1, b2, b3⟩
        obtain ⟨c1, c2⟩ := b2 n (by simp)
        refine absurd (hf.1.2 ⟨c1, c2, ?_⟩) h1
        rw [List.flatMap_cons, ← List.append_assoc] at b3
        exact (List.nodup_append.1 b3).1
theorem ofF_nil {s : Scm} {g : Grf} : ofF s g = [] ↔ (∀ n ∈ g.nodes, aloneF s n = [] ∧ s.bonds.flatMap (bondF s g n) = []) ∧ (g.nodes.flatMap (keyL s)).Nodup ∧ ∀ t ∈ g.ties, tieF s g t = [] := by
  unfold ofF nodesF
  rw [List.append_eq_nil_iff, nodes_fold s g g.nodes ([], []) List.nodup_nil, List.flatMap_eq_nil_iff]
  simp [and_assoc]
theorem key_wide {a b : Scm} (ha : Right a.kinds) (hb : Right b.kinds) (hw : ∀ x ∈ a.kinds, kindW b.kinds x = true) {n : Nod} (hn : nodE n = 0) (h : aloneF a n = []) : (keyL b n).Nodup ∧ ∀ k ∈ keyL b n, k ∈ keyL a n := by
  obtain ⟨k, hk, e⟩ := aloneF_kind h
  rw [aloneF_rec ⟨k, hk, e⟩, recF_nil] at h
  obtain ⟨f1, f2, d, hd, hdn⟩ := kfl_wide ha hb hw hk
  have hr := kfl_rise hb hd
  rw [hdn] at hr
  rw [e] at f1 f2 hdn hr
  constructor
  · unfold keyL List.Nodup
    rw [List.pairwise_filterMap]
    refine List.Pairwise.imp (fun {x y} hxy => ?_) hr
    intro k1 h1 k2 h2 e
    obtain ⟨_, _, p, _, _, rfl⟩ := keyOf_iff.1 h1
    obtain ⟨_, _, q, _, _, rfl⟩ := keyOf_iff.1 h2
    injection e with e1 e2
    rw [e1, cmpS_zero.2 rfl] at hxy
    omega
  · intro K hK
    obtain ⟨y, hy, hKy⟩ := List.mem_filterMap.1 hK
    obtain ⟨h1, h2, p, hp, h3, rfl⟩ := keyOf_iff.1 hKy
    have hpn := rhas_get h2 hp
    have hpm := List.mem_of_getElem? hp
    have hp1 := h.1 p hpm
    rcases tyF_cases (kfl a n.kind) p.name with ⟨h1, _⟩ | ⟨x, hx, g1, g2⟩
    · exact absurd (hp1.symm.trans h1) (nodE_types hn p hpm)
    · obtain ⟨z, hz, hxz⟩ := f1 x hx
      have : z = y := hr.uniq hz hy (by rw [hxz.1, g1, hpn])
      subst this
      have hxn : x.name = z.name := hxz.1.symm
      exact List.mem_filterMap.2 ⟨x, hx, keyOf_iff.2 ⟨hxz.2.2.2 h1, by rw [hxn]; exact h2, p, by rw [hxn]; exact hp, by rw [h3, hxz.2.1], by rw [hxn]⟩⟩
theorem flat_nodup {A B : Type} {f g : A → List B} {l : List A} (h : (l.flatMap f).Nodup) (hg : ∀ x ∈ l, (g x).Nodup ∧ ∀ k ∈ g x, k ∈ f x) : (l.flatMap g).Nodup := by
  unfold List.Nodup at h ⊢
  rw [List.pairwise_flatMap] at h ⊢
  refine ⟨fun x hx => (hg x hx).1, ?_⟩
  refine List.Pairwise.imp_of_mem (fun {x y} hx hy hxy => ?_) h.2
  exact fun k1 h1 k2 h2 => hxy k1 ((hg x hx).2 k1 h1) k2 ((hg y hy).2 k2 h2)
end Go.Proofs.Ytpjnbikkhfnjbaa
