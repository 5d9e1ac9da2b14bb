/- Parts: ChkP, ChkQ, Srow. -/
import Derived.Test.YthefofclbepkoaaMg15
import Derived.Test.YthefofclbepkoaaMg16
import Derived.Test.YthefofclbepkoaaMg19
import Derived.Test.YthefofclbepkoaaMg01
import Derived.Laws.Rows
import Derived.Laws.CopyRow
/- Plain: all faults of a graph, by a schema. No condition. -/
namespace Go.Proofs.Ythefofclbepkoaa
open Go Go.RowKit

/-- Whether a field is a key that a node has, of its type; which one. -/
def keyOf (n : Nod) (f : Fld) : Option Key := match n.props[rpos n.props f.name]? with
  | some p => if f.key = true ∧ rhas n.props f.name = true ∧ p.v.ty = f.ty then some ⟨f.name, p.v⟩ else none
  | none => none
def keyStep (n : Nod) (acc : List Flt × List Key) (f : Fld) : List Flt × List Key := match keyOf n f with
  | some k => if k ∈ acc.2 then (acc.1 ++ [⟨4, n.id, f.name⟩], acc.2) else (acc.1, acc.2 ++ [k])
  | none => acc
def keysF (n : Nod) (fields : List Fld) (S : List Key) : List Flt × List Key := fields.foldl (keyStep n) ([], S)
def manyF (g : Grf) (n : Nod) (b : Bnd) : Int := ((endsS g n.id b.name false).length : Int)
def bondF (s : Scm) (g : Grf) (n : Nod) (b : Bnd) : List Flt :=
  if isKinB s.kinds n.kind b.src = true then
    (if manyF g n b < b.mn then [⟨7, n.id, b.name⟩] else []) ++ (if 0 ≤ b.mx ∧ b.mx < manyF g n b then [⟨8, n.id, b.name⟩] else [])
  else []
def nodeF (s : Scm) (g : Grf) (S : List Key) (n : Nod) : List Flt × List Key :=
  if kFind s.kinds n.kind < 0 then (aloneF s n, S)
  else (aloneF s n ++ (keysF n (kfl s n.kind) S).1 ++ s.bonds.flatMap (bondF s g n), (keysF n (kfl s n.kind) S).2)
def nodesF (s : Scm) (g : Grf) (l : List Nod) : List Flt × List Key := l.foldl (fun acc n => (acc.1 ++ (nodeF s g acc.2 n).1, (nodeF s g acc.2 n).2)) ([], [])
def tieF (s : Scm) (g : Grf) (t : Tie) : List Flt := match s.bonds[(bFind s.bonds t.bond).toNat]? with
  | some b => if bFind s.bonds t.bond < 0 then [⟨5, t.src, t.bond⟩] else if endB s g t.src b.src = true ∧ endB s g t.dst b.dst = true then [] else [⟨6, t.src, t.bond⟩]
  | none => [⟨5, t.src, t.bond⟩]
/-- All faults. -/
def ofF (s : Scm) (g : Grf) : List Flt := (nodesF s g g.nodes).1 ++ g.ties.flatMap (tieF s g)
theorem nodesF_snoc (s : Scm) (g : Grf) (l : List Nod) (n : Nod) : nodesF s g (l ++ [n]) = ((nodesF s g l).1 ++ (nodeF s g (nodesF s g l).2 n).1, (nodeF s g (nodesF s g l).2 n).2) := by simp [nodesF]
theorem keysF_snoc (n : Nod) (l : List Fld) (f : Fld) (S : List Key) : keysF n (l ++ [f]) S = keyStep n (keysF n l S) f := by simp [keysF]
theorem keyStep_len (n : Nod) (acc : List Flt × List Key) (f : Fld) : (keyStep n acc f).1.length ≤ acc.1.length + 1 := by
  unfold keyStep
  split
  · split <;> simp
  · omega
theorem keysFold_len (n : Nod) : ∀ (l : List Fld) (acc : List Flt × List Key), (l.foldl (keyStep n) acc).1.length ≤ acc.1.length + l.length
  | [], _ => by simp
  | f :: r, acc => by
    have h1 := keysFold_len n r (keyStep n acc f)
    have h2 := keyStep_len n acc f
    simp only [List.foldl_cons, List.length_cons]
    omega
theorem keysF_len (n : Nod) (l : List Fld) (S : List Key) : (keysF n l S).1.length ≤ l.length := by
  have h := keysFold_len n l ([], S)
  simpa [keysF] using h
theorem aloneF_len (s : Scm) (n : Nod) : (aloneF s n).length ≤ n.props.length + (kfl s n.kind).length + 1 := by
  unfold aloneF recF
  split
  · simp
  · have h1 := List.length_filter_le (badF (kfl s n.kind)) n.props
    have h2 := List.length_filter_le (lackF n) (kfl s n.kind)
    simp only [List.length_append, List.length_map]
    omega
end Go.Proofs.Ythefofclbepkoaa

/- Plain: a graph that conforms: each node is right by itself. No condition. -/
namespace Go.Proofs.Ythefofclbepkoaa
open Go Go.RowKit

theorem nodeF_alone {s : Scm} {g : Grf} {S : List Key} {n : Nod} (h : (nodeF s g S n).1 = []) : aloneF s n = [] := by
  unfold nodeF at h
  split at h
  · exact h
  · have h1 := (List.append_eq_nil_iff.1 h).1
    exact (List.append_eq_nil_iff.1 h1).1
theorem nodesF_aux {s : Scm} {g : Grf} : ∀ (l : List Nod) (acc : List Flt × List Key), (l.foldl (fun acc n => (acc.1 ++ (nodeF s g acc.2 n).1, (nodeF s g acc.2 n).2)) acc).1 = [] → acc.1 = [] ∧ ∀ n ∈ l, aloneF s n = []
  | [], _, h => ⟨h, by simp⟩
  | n :: r, acc, h => by
    obtain ⟨h1, h2⟩ := nodesF_aux r _ h
    obtain ⟨a1, a2⟩ := List.append_eq_nil_iff.1 h1
    refine ⟨a1, fun m hm => ?_⟩
    rcases List.mem_cons.1 hm with rfl | hm
    · exact nodeF_alone a2
    · exact h2 m hm
theorem ofF_alone {s : Scm} {g : Grf} (h : ofF s g = []) : ∀ n ∈ g.nodes, aloneF s n = [] := by
  unfold ofF at h
  exact (nodesF_aux g.nodes ([], []) (List.append_eq_nil_iff.1 h).1).2
theorem ofF_empty (s : Scm) : ofF s ⟨[], []⟩ = [] := rfl
/-- All that nodes have that are wrong by themselves. -/
def sumA (s : Scm) (l : List Nod) : Nat := (l.map fun n => (aloneF s n).length).sum
theorem sumA_snoc {s : Scm} {l : List Nod} {k : Nat} {n : Nod} (h : l[k]? = some n) : sumA s (l.take (k + 1)) = sumA s (l.take k) + (aloneF s n).length := by
  unfold sumA
  rw [take_snocF h]
  simp
theorem sumA_zero {s : Scm} {l : List Nod} (h : ∀ n ∈ l, aloneF s n = []) : sumA s l = 0 := by
  unfold sumA
  induction l with
  | nil => rfl
  | cons n r ih =>
    have h1 := h n (by simp)
    have h2 := ih (fun m hm => h m (by simp [hm]))
    simp [h1, h2]
theorem sumA_le {s : Scm} {b : Nat} : ∀ {l : List Nod}, (∀ n ∈ l, (aloneF s n).length ≤ b) → sumA s l ≤ l.length * b
  | [], _ => by simp [sumA]
  | n :: r, h => by
    have h1 := h n (by simp)
    have h2 := sumA_le (l := r) (fun m hm => h m (by simp [hm]))
    unfold sumA at h2 ⊢
    simp only [List.map_cons, List.sum_cons, List.length_cons, Nat.succ_mul]
    omega
/-- A schema that is right: each kind's fields are few. -/
theorem kfl_len {s : Scm} (h : Right s.kinds) (nm : ByteArray) : (kfl s nm).length ≤ 8 := by
  unfold kfl
  split
  · simp
  · rename_i hk
    obtain ⟨i, k, _, hk2, hk3, _⟩ := kFind_pos (by omega : 0 ≤ kFind s.kinds nm)
    obtain ⟨fs, h1, h2⟩ := h.fields (List.mem_of_getElem? hk2)
    rw [hk3] at h1
    rw [h1]
    exact h2
theorem flat_le {D E : Type} {f : D → List E} {c : Nat} : ∀ {l : List D}, (∀ x ∈ l, (f x).length ≤ c) → (l.flatMap f).length ≤ l.length * c
  | [], _ => by simp
  | x :: r, h => by
    have h1 := h x (by simp)
    have h2 := flat_le (l := r) (fun y hy => h y (by simp [hy]))
    simp only [List.flatMap_cons, List.length_append, List.length_cons, Nat.succ_mul]
    omega
theorem bondF_len (s : Scm) (g : Grf) (n : Nod) (b : Bnd) : (bondF s g n b).length ≤ 2 := by
  unfold bondF
  split
  · rw [List.length_append]
    split <;> split <;> simp
  · simp
theorem nodeF_len {s : Scm} {g : Grf} {S : List Key} {n : Nod} (hp : n.props.length ≤ 8) (hk : (kfl s n.kind).length ≤ 8) (hb : s.bonds.length ≤ 12) : (nodeF s g S n).1.length ≤ 60 := by
  have h1 := aloneF_len s n
  have h2 := keysF_len n (kfl s n.kind) S
  have h3 := flat_le (l := s.bonds) (f := bondF s g n) (c := 2) (fun b _ => bondF_len s g n b)
  unfold nodeF
  split
  · show (aloneF s n).length ≤ 60
    omega
  · simp only [List.length_append]
    omega
theorem nodesF_len {s : Scm} {g : Grf} (hk : ∀ nm, (kfl s nm).length ≤ 8) (hb : s.bonds.length ≤ 12) : ∀ (l : List Nod) (acc : List Flt × List Key), (∀ n ∈ l, n.props.length ≤ 8) → (l.foldl (fun acc n => (acc.1 ++ (nodeF s g acc.2 n).1, (nodeF s g acc.2 n).2)) acc).1.length ≤ acc.1.length + l.length * 60
  | [], _, _ => by simp
  | n :: r, acc, h => by
    have h1 := nodesF_len (g := g) hk hb r (acc.1 ++ (nodeF s g acc.2 n).1, (nodeF s g acc.2 n).2) (fun m hm => h m (by simp [hm]))
    have h2 := nodeF_len (g := g) (S := acc.2) (h n (by simp)) (hk n.kind) hb
    simp only [List.length_append] at h1
    simp only [List.foldl_cons, List.length_cons, Nat.succ_mul]
    omega
theorem nodesF_le {s : Scm} {g : Grf} (hk : ∀ nm, (kfl s nm).length ≤ 8) (hb : s.bonds.length ≤ 12) (h : ∀ n ∈ g.nodes, n.props.length ≤ 8) (k : Nat) : (nodesF s g (g.nodes.take k)).1.length ≤ k * 60 := by
  have h1 := nodesF_len (g := g) hk hb (g.nodes.take k) ([], []) (fun n hn => h n (List.mem_of_mem_take hn))
  have h2 : (g.nodes.take k).length ≤ k := by rw [List.length_take]; omega
  have h3 : (nodesF s g (g.nodes.take k)).1.length ≤ 0 + (g.nodes.take k).length * 60 := h1
  have h4 : (g.nodes.take k).length * 60 ≤ k * 60 := Nat.mul_le_mul_right _ h2
  omega
theorem tieF_len (s : Scm) (g : Grf) (t : Tie) : (tieF s g t).length ≤ 1 := by
  unfold tieF
  split
  · split
    · simp
    · split <;> simp
  · simp
theorem tieF_le (s : Scm) (g : Grf) (k : Nat) : ((g.ties.take k).flatMap (tieF s g)).length ≤ k := by
  have h1 := flat_le (l := g.ties.take k) (f := tieF s g) (c := 1) (fun t _ => tieF_len s g t)
  have h2 : (g.ties.take k).length ≤ k := by rw [List.length_take]; omega
  omega
/-- The fields that are keys. -/
theorem keyOf_none {n : Nod} {f : Fld} (h : f.key = false ∨ rhas n.props f.name = false) : keyOf n f = none := by
  unfold keyOf
  split
  · rw [if_neg]
    rintro ⟨h1, h2, _⟩
    rcases h with h | h
    · rw [h] at h1; cases h1
    · rw [h] at h2; cases h2
  · rfl
theorem keyOf_at {n : Nod} {f : Fld} {p : Prp} (h1 : f.key = true) (h2 : rhas n.props f.name = true) (hp : n.props[rpos n.props f.name]? = some p) : keyOf n f = if p.v.ty = f.ty then some ⟨f.name, p.v⟩ else none := by
  unfold keyOf
  rw [hp]
  simp [h1, h2]
end Go.Proofs.Ythefofclbepkoaa

/- Plain: a whole struct is stored into a block of its own type. No condition. -/
namespace Go.Proofs.Ythefofclbepkoaa
open Go Go.RowKit
section
variable {P : Program}

/-- A block is another one, all else stays. -/
structure Put (w w' : World) (g : Nat) (cs : Array Value) (T : TypeId) : Prop where
  q : w'.heap[g]? = some (.cells cs T (0, 0))
  b : ∀ B, B ≤ g → Below B w w'
  o : ∀ k, k ≠ g → w'.heap[k]? = w.heap[k]?
  s : w'.heap.size = w.heap.size
theorem put_row (w : World) (g : Nat) (cs cs' : Array Value) (T : TypeId) (hg : w.heap[g]? = some (.cells cs T (0, 0))) : Put w (w.setRow g cs') g cs' T := by
  have ho : ∀ k, k ≠ g → (w.setRow g cs').heap[k]? = w.heap[k]? := fun k hk => by
    simp only [World.setRow, Array.getElem?_modify]
    rw [if_neg (fun e => hk e.symm)]
  have hs : (w.setRow g cs').heap.size = w.heap.size := by simp [World.setRow]
  exact ⟨setRow_heap w g cs cs' T (0, 0) hg, fun B hB => ⟨rfl, rfl, rfl, by rw [hs]; exact Nat.le_refl _, fun k hk => ho k (by omega)⟩, ho, hs⟩
theorem run_storeVar_row (w : World) (g : Nat) (T ty : TypeId) (cs cs' : Array Value) (hg : w.heap[g]? = some (.cells cs T (0, 0))) (hl : cs'.size = cs.size) (h1 : ∀ v ∈ cs'.toList, v.oneCell' = true) (hi : (P.info? ty).map (·.size) = some cs'.size) :
    (storeVar ty ⟨g, 0, none⟩ (.agg cs')).run P w = .ok () (w.setRow g cs') := by
  have hst := run_storeCells_at P g 0 T cs'.toList 0 cs w hg (by simp; omega) h1
  have e : (cs.toList.take (0 + 0) ++ cs'.toList ++ cs.toList.drop (0 + 0 + cs'.toList.length)).toArray = cs' := by
    rw [List.drop_of_length_le (by simp; omega)]; simp
  rw [e] at hst
  cases hq : P.info? ty with
  | none => simp [hq] at hi
  | some i =>
    have hs : i.size = cs'.size := by simpa [hq] using hi
    simp [storeVar, Sem.run_bind, sizeOf, typeInfo, hq, hs, Value.cells, hst]
theorem wpList_store_row {ops : Array Oper} {rest : List Oper} {o : Oper} {a : Act} {w : World} {Q : Exit → Act → World → Prop} (hgd : o.guard = none) (ty : TypeId) (x v : Operand) (ho : o.op = .store ty x v) (hd : o.dst = none)
    (g : Nat) (hx : a.eval x = .pointer (some ⟨g, 0, none⟩)) (T : TypeId) (cs cs' : Array Value) (hv : a.eval v = .agg cs') (hg : w.heap[g]? = some (.cells cs T (0, 0)))
    (hl : cs'.size = cs.size) (h1 : (cs'.toList.all fun v => v.oneCell') = true) (hi : (P.info? ty).map (·.size) = some cs'.size)
    (h : ∀ w', Put w w' g cs' T → wpList P ops Q rest a w') : wpList P ops Q (o :: rest) a w :=
  wpList_plain hgd fun _ hK => by
    unfold Oper.wp execOp
    simp only [ho, hx, hv, Instr.storeAt, Instr.sureAddr, Sem.run_bind, Sem.run_pure, Result.andThen_ok, run_storeVar_row w g T ty cs cs' hg hl (List.all_eq_true.1 h1) hi]
    have e : a.put o.dst undef = a := by rw [hd]; rfl
    have h2 := h _ (put_row w g cs cs' T hg)
    rw [← e] at h2
    exact hK _ _ h2
end
end Go.Proofs.Ythefofclbepkoaa
