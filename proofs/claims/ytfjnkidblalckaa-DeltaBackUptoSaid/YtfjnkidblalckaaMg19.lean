/- Parts: SortI, EndA, ChkP, ChkQ, Srow, Chk4, SchB, Chk5, Chk6, Chk7, OwnS, Simp, Many. -/
import Derived.Test.YtfjnkidblalckaaMg01
import Derived.Test.YtfjnkidblalckaaRows
import Derived.Shelf.SortM.Plain
import Derived.Shelf.SortM.SortNone
import Derived.Ground.SlgmProg
import Derived.Test.YtfjnkidblalckaaMg18
import Derived.Test.YtfjnkidblalckaaMg02
import Derived.Laws.Rows
import Derived.Laws.CopyRow
import Derived.Deep.RegionHeld3
import Derived.Deep.DeepCutAuto
import Derived.Test.YtfjnkidblalckaaMg05
import Derived.Test.YtfjnkidblalckaaMg04
import Derived.Test.YtfjnkidblalckaaMg06
import Derived.Test.YtfjnkidblalckaaMg12
/- Contract: slices.Sort at whole numbers, at a row of the call's own. No condition. -/
namespace Go.Proofs.Ytfjnkidblalckaa
open Go Go.RowKit Go.Sort Go.Proofs


theorem heap_sorted_at {w : World} {g o n : Nat} {os : Array Obj} {cur : Array Value} {e : TypeId} {fr : Nat × Nat} (d : Array Int) (hb : w.heap[g]? = some (.cells cur e fr)) :
    (grow (putRow (Value.int .i64) (Sort.ahead w n) g o d) os).heap[g]? = some (.cells (putCells (Value.int .i64) o d cur) e fr) := by
  have hg : g < w.heap.size := (Array.getElem?_eq_some_iff.1 hb).1
  rw [heap_grow_old _ _ (by simpa using hg)]
  simp [putRow, mapBlock, Sort.ahead, Array.getElem?_modify, hb, onCells]
theorem grownBy_sorted_at {w : World} {g o n : Nat} {os : Array Obj} (d : Array Int) : w.grownBy (grow (putRow (Value.int .i64) (Sort.ahead w n) g o d) os) (some g) := by
  refine ⟨rfl, rfl, rfl, by simp, fun k hk hne => ?_⟩
  rw [heap_grow_old _ _ (by simpa using hk)]
  have : g ≠ k := fun e => hne (by rw [e])
  simp [putRow, mapBlock, Sort.ahead, Array.getElem?_modify, this]
theorem putCells_at (o : Nat) (cur : Array Value) (ts : List Int) (h : o + ts.length ≤ cur.size) : ((putCells (Value.int .i64) o ts.toArray cur).toList.drop o).take ts.length = ts.map (Value.int .i64) := by
  apply List.ext_getElem?
  intro j
  by_cases hj : j < ts.length
  · rw [List.getElem?_take_of_lt hj, List.getElem?_drop, Array.getElem?_toList]
    simp [putCells, hj, show o + j < cur.size by omega]
  · rw [List.getElem?_take_eq_none (by omega), List.getElem?_eq_none (by simp; omega)]
/-- Sorted, in place. -/
def sortI (l : List Int) : List Int := l.mergeSort fun x y => decide (x ≤ y)
theorem sortI_perm (l : List Int) : (sortI l).Perm l := List.mergeSort_perm _ _
theorem sortI_len (l : List Int) : (sortI l).length = l.length := (sortI_perm l).length_eq
end Go.Proofs.Ytfjnkidblalckaa

/- Contract: graph.Ends. -/
namespace Go.Proofs.Ytfjnkidblalckaa
open Go Go.RowKit

/-- Ends of ties, in order. -/
def endsS (g : Grf) (id : Int) (bond : ByteArray) (back : Bool) : List Int := sortI (endsL g.ties id bond back)
theorem endsL_len (ts : List Tie) (id : Int) (bond : ByteArray) (back : Bool) : (endsL ts id bond back).length ≤ ts.length := by
  unfold endsL; rw [List.length_map]; exact List.length_filter_le _ _
theorem endsL_take {ts : List Tie} {k : Nat} {t : Tie} (ht : ts[k]? = some t) (id : Int) (bond : ByteArray) (back : Bool) :
    endsL (ts.take (k + 1)) id bond back = endsL (ts.take k) id bond back ++ (if endT back bond id t then [endX back t] else []) := by
  unfold endsL
  rw [List.take_add_one, ht, List.filter_append, List.map_append]
  congr 1
  show ((([t] : List Tie).filter (endT back bond id)).map (endX back)) = _
  rw [List.filter_cons]
  split <;> rfl
theorem endX_i64 {t : Tie} (h : t.ok) (back : Bool) : I64 (endX back t) := by
  unfold endX
  cases back
  · exact h.2.2
  · exact h.2.1
theorem eint_info : (Try.prog.info? 3).map (fun i => (i.zero, i.size, i.bytes)) = some (some (.int .i64 0), 1, 8) := by kernel_rfl
end Go.Proofs.Ytfjnkidblalckaa

/- Plain: all faults of a graph, by a schema. No condition. -/
namespace Go.Proofs.Ytfjnkidblalckaa
open Go Go.RowKit

/-- Whether a field is a key that a node has, of its type; which one. -/
def keyOf (n : Nod) (f : Fld) : Option Key := match n.props[rpos n.props f.name]? with
  | some p => if f.key = true ∧ rhas n.props f.name = true ∧ p.v.ty = f.ty then some ⟨f.name, p.v⟩ else none
  | none => none
def keyStep (n : Nod) (acc : List Flt × List Key) (f : Fld) : List Flt × List Key := match keyOf n f with
  | some k => if k ∈ acc.2 then (acc.1 ++ [⟨4, n.id, f.name⟩], acc.2) else (acc.1, acc.2 ++ [k])
  | none => acc
def keysF (n : Nod) (fields : List Fld) (S : List Key) : List Flt × List Key := fields.foldl (keyStep n) ([], S)
def manyF (g : Grf) (n : Nod) (b : Bnd) : Int := ((endsS g n.id b.name false).length : Int)
def bondF (s : Scm) (g : Grf) (n : Nod) (b : Bnd) : List Flt :=
  if isKinB s.kinds n.kind b.src = true then
    (if manyF g n b < b.mn then [⟨7, n.id, b.name⟩] else []) ++ (if 0 ≤ b.mx ∧ b.mx < manyF g n b then [⟨8, n.id, b.name⟩] else [])
  else []
def nodeF (s : Scm) (g : Grf) (S : List Key) (n : Nod) : List Flt × List Key :=
  if kFind s.kinds n.kind < 0 then (aloneF s n, S)
  else (aloneF s n ++ (keysF n (kfl s n.kind) S).1 ++ s.bonds.flatMap (bondF s g n), (keysF n (kfl s n.kind) S).2)
def nodesF (s : Scm) (g : Grf) (l : List Nod) : List Flt × List Key := l.foldl (fun acc n => (acc.1 ++ (nodeF s g acc.2 n).1, (nodeF s g acc.2 n).2)) ([], [])
def tieF (s : Scm) (g : Grf) (t : Tie) : List Flt := match s.bonds[(bFind s.bonds t.bond).toNat]? with
  | some b => if bFind s.bonds t.bond < 0 then [⟨5, t.src, t.bond⟩] else if endB s g t.src b.src = true ∧ endB s g t.dst b.dst = true then [] else [⟨6, t.src, t.bond⟩]
  | none => [⟨5, t.src, t.bond⟩]
/-- All faults. -/
def ofF (s : Scm) (g : Grf) : List Flt := (nodesF s g g.nodes).1 ++ g.ties.flatMap (tieF s g)
theorem nodesF_snoc (s : Scm) (g : Grf) (l : List Nod) (n : Nod) : nodesF s g (l ++ [n]) = ((nodesF s g l).1 ++ (nodeF s g (nodesF s g l).2 n).1, (nodeF s g (nodesF s g l).2 n).2) := by simp [nodesF]
theorem keysF_snoc (n : Nod) (l : List Fld) (f : Fld) (S : List Key) : keysF n (l ++ [f]) S = keyStep n (keysF n l S) f := by simp [keysF]
theorem keyStep_len (n : Nod) (acc : List Flt × List Key) (f : Fld) : (keyStep n acc f).1.length ≤ acc.1.length + 1 := by
  unfold keyStep
  split
  · split <;> simp
  · omega
theorem keysFold_len (n : Nod) : ∀ (l : List Fld) (acc : List Flt × List Key), (l.foldl (keyStep n) acc).1.length ≤ acc.1.length + l.length
  | [], _ => by simp
  | f :: r, acc => by
    have h1 := keysFold_len n r (keyStep n acc f)
    have h2 := keyStep_len n acc f
    simp only [List.foldl_cons, List.length_cons]
    omega
theorem keysF_len (n : Nod) (l : List Fld) (S : List Key) : (keysF n l S).1.length ≤ l.length := by
  have h := keysFold_len n l ([], S)
  simpa [keysF] using h
theorem aloneF_len (s : Scm) (n : Nod) : (aloneF s n).length ≤ n.props.length + (kfl s n.kind).length + 1 := by
  unfold aloneF recF
  split
  · simp
  · have h1 := List.length_filter_le (badF (kfl s n.kind)) n.props
    have h2 := List.length_filter_le (lackF n) (kfl s n.kind)
    simp only [List.length_append, List.length_map]
    omega
end Go.Proofs.Ytfjnkidblalckaa

/- Plain: a graph that conforms: each node is right by itself. No condition. -/
namespace Go.Proofs.Ytfjnkidblalckaa
open Go Go.RowKit

theorem nodeF_alone {s : Scm} {g : Grf} {S : List Key} {n : Nod} (h : (nodeF s g S n).1 = []) : aloneF s n = [] := by
  unfold nodeF at h
  split at h
  · exact h
  · have h1 := (List.append_eq_nil_iff.1 h).1
    exact (List.append_eq_nil_iff.1 h1).1
theorem nodesF_aux {s : Scm} {g : Grf} : ∀ (l : List Nod) (acc : List Flt × List Key), (l.foldl (fun acc n => (acc.1 ++ (nodeF s g acc.2 n).1, (nodeF s g acc.2 n).2)) acc).1 = [] → acc.1 = [] ∧ ∀ n ∈ l, aloneF s n = []
  | [], _, h => ⟨h, by simp⟩
  | n :: r, acc, h => by
    obtain ⟨h1, h2⟩ := nodesF_aux r _ h
    obtain ⟨a1, a2⟩ := List.append_eq_nil_iff.1 h1
    refine ⟨a1, fun m hm => ?_⟩
    rcases List.mem_cons.1 hm with rfl | hm
    · exact nodeF_alone a2
    · exact h2 m hm
theorem ofF_alone {s : Scm} {g : Grf} (h : ofF s g = []) : ∀ n ∈ g.nodes, aloneF s n = [] := by
  unfold ofF at h
  exact (nodesF_aux g.nodes ([], []) (List.append_eq_nil_iff.1 h).1).2
theorem ofF_empty (s : Scm) : ofF s ⟨[], []⟩ = [] := rfl
/-- All that nodes have that are wrong by themselves. -/
def sumA (s : Scm) (l : List Nod) : Nat := (l.map fun n => (aloneF s n).length).sum
theorem sumA_snoc {s : Scm} {l : List Nod} {k : Nat} {n : Nod} (h : l[k]? = some n) : sumA s (l.take (k + 1)) = sumA s (l.take k) + (aloneF s n).length := by
  unfold sumA
  rw [take_snocF h]
  simp
theorem sumA_zero {s : Scm} {l : List Nod} (h : ∀ n ∈ l, aloneF s n = []) : sumA s l = 0 := by
  unfold sumA
  induction l with
  | nil => rfl
  | cons n r ih =>
    have h1 := h n (by simp)
    have h2 := ih (fun m hm => h m (by simp [hm]))
    simp [h1, h2]
theorem sumA_le {s : Scm} {b : Nat} : ∀ {l : List Nod}, (∀ n ∈ l, (aloneF s n).length ≤ b) → sumA s l ≤ l.length * b
  | [], _ => by simp [sumA]
  | n :: r, h => by
    have h1 := h n (by simp)
    have h2 := sumA_le (l := r) (fun m hm => h m (by simp [hm]))
    unfold sumA at h2 ⊢
    simp only [List.map_cons, List.sum_cons, List.length_cons, Nat.succ_mul]
    omega
/-- A schema that is right: each kind's fields are few. -/
theorem kfl_len {s : Scm} (h : Right s.kinds) (nm : ByteArray) : (kfl s nm).length ≤ 8 := by
  unfold kfl
  split
  · simp
  · rename_i hk
    obtain ⟨i, k, _, hk2, hk3, _⟩ := kFind_pos (by omega : 0 ≤ kFind s.kinds nm)
    obtain ⟨fs, h1, h2⟩ := h.fields (List.mem_of_getElem? hk2)
    rw [hk3] at h1
    rw [h1]
    exact h2
theorem flat_le {D E : Type} {f : D → List E} {c : Nat} : ∀ {l : List D}, (∀ x ∈ l, (f x).length ≤ c) → (l.flatMap f).length ≤ l.length * c
  | [], _ => by simp
  | x :: r, h => by
    have h1 := h x (by simp)
    have h2 := flat_le (l := r) (fun y hy => h y (by simp [hy]))
    simp only [List.flatMap_cons, List.length_append, List.length_cons, Nat.succ_mul]
    omega
theorem bondF_len (s : Scm) (g : Grf) (n : Nod) (b : Bnd) : (bondF s g n b).length ≤ 2 := by
  unfold bondF
  split
  · rw [List.length_append]
    split <;> split <;> simp
  · simp
theorem nodeF_len {s : Scm} {g : Grf} {S : List Key} {n : Nod} (hp : n.props.length ≤ 8) (hk : (kfl s n.kind).length ≤ 8) (hb : s.bonds.length ≤ 12) : (nodeF s g S n).1.length ≤ 60 := by
  have h1 := aloneF_len s n
  have h2 := keysF_len n (kfl s n.kind) S
  have h3 := flat_le (l := s.bonds) (f := bondF s g n) (c := 2) (fun b _ => bondF_len s g n b)
  unfold nodeF
  split
  · show (aloneF s n).length ≤ 60
    omega
  · simp only [List.length_append]
    omega
theorem nodesF_len {s : Scm} {g : Grf} (hk : ∀ nm, (kfl s nm).length ≤ 8) (hb : s.bonds.length ≤ 12) : ∀ (l : List Nod) (acc : List Flt × List Key), (∀ n ∈ l, n.props.length ≤ 8) → (l.foldl (fun acc n => (acc.1 ++ (nodeF s g acc.2 n).1, (nodeF s g acc.2 n).2)) acc).1.length ≤ acc.1.length + l.length * 60
  | [], _, _ => by simp
  | n :: r, acc, h => by
    have h1 := nodesF_len (g := g) hk hb r (acc.1 ++ (nodeF s g acc.2 n).1, (nodeF s g acc.2 n).2) (fun m hm => h m (by simp [hm]))
    have h2 := nodeF_len (g := g) (S := acc.2) (h n (by simp)) (hk n.kind) hb
    simp only [List.length_append] at h1
    simp only [List.foldl_cons, List.length_cons, Nat.succ_mul]
    omega
theorem nodesF_le {s : Scm} {g : Grf} (hk : ∀ nm, (kfl s nm).length ≤ 8) (hb : s.bonds.length ≤ 12) (h : ∀ n ∈ g.nodes, n.props.length ≤ 8) (k : Nat) : (nodesF s g (g.nodes.take k)).1.length ≤ k * 60 := by
  have h1 := nodesF_len (g := g) hk hb (g.nodes.take k) ([], []) (fun n hn => h n (List.mem_of_mem_take hn))
  have h2 : (g.nodes.take k).length ≤ k := by rw [List.length_take]; omega
  have h3 : (nodesF s g (g.nodes.take k)).1.length ≤ 0 + (g.nodes.take k).length * 60 := h1
  have h4 : (g.nodes.take k).length * 60 ≤ k * 60 := Nat.mul_le_mul_right _ h2
  omega
theorem tieF_len (s : Scm) (g : Grf) (t : Tie) : (tieF s g t).length ≤ 1 := by
  unfold tieF
  split
  · split
    · simp
    · split <;> simp
  · simp
theorem tieF_le (s : Scm) (g : Grf) (k : Nat) : ((g.ties.take k).flatMap (tieF s g)).length ≤ k := by
  have h1 := flat_le (l := g.ties.take k) (f := tieF s g) (c := 1) (fun t _ => tieF_len s g t)
  have h2 : (g.ties.take k).length ≤ k := by rw [List.length_take]; omega
  omega
/-- The fields that are keys. -/
theorem keyOf_none {n : Nod} {f : Fld} (h : f.key = false ∨ rhas n.props f.name = false) : keyOf n f = none := by
  unfold keyOf
  split
  · rw [if_neg]
    rintro ⟨h1, h2, _⟩
    rcases h with h | h
    · rw [h] at h1; cases h1
    · rw [h] at h2; cases h2
  · rfl
theorem keyOf_at {n : Nod} {f : Fld} {p : Prp} (h1 : f.key = true) (h2 : rhas n.props f.name = true) (hp : n.props[rpos n.props f.name]? = some p) : keyOf n f = if p.v.ty = f.ty then some ⟨f.name, p.v⟩ else none := by
  unfold keyOf
  rw [hp]
  simp [h1, h2]
end Go.Proofs.Ytfjnkidblalckaa

/- Plain: a whole struct is stored into a block of its own type. No condition. -/
namespace Go.Proofs.Ytfjnkidblalckaa
open Go Go.RowKit
section
variable {P : Program}

/-- A block is another one, all else stays. -/
structure Put (w w' : World) (g : Nat) (cs : Array Value) (T : TypeId) : Prop where
  q : w'.heap[g]? = some (.cells cs T (0, 0))
  b : ∀ B, B ≤ g → Below B w w'
  o : ∀ k, k ≠ g → w'.heap[k]? = w.heap[k]?
  s : w'.heap.size = w.heap.size
theorem put_row (w : World) (g : Nat) (cs cs' : Array Value) (T : TypeId) (hg : w.heap[g]? = some (.cells cs T (0, 0))) : Put w (w.setRow g cs') g cs' T := by
  have ho : ∀ k, k ≠ g → (w.setRow g cs').heap[k]? = w.heap[k]? := fun k hk => by
    simp only [World.setRow, Array.getElem?_modify]
    rw [if_neg (fun e => hk e.symm)]
  have hs : (w.setRow g cs').heap.size = w.heap.size := by simp [World.setRow]
  exact ⟨setRow_heap w g cs cs' T (0, 0) hg, fun B hB => ⟨rfl, rfl, rfl, by rw [hs]; exact Nat.le_refl _, fun k hk => ho k (by omega)⟩, ho, hs⟩
theorem run_storeVar_row (w : World) (g : Nat) (T ty : TypeId) (cs cs' : Array Value) (hg : w.heap[g]? = some (.cells cs T (0, 0))) (hl : cs'.size = cs.size) (h1 : ∀ v ∈ cs'.toList, v.oneCell' = true) (hi : (P.info? ty).map (·.size) = some cs'.size) :
    (storeVar ty ⟨g, 0, none⟩ (.agg cs')).run P w = .ok () (w.setRow g cs') := by
  have hst := run_storeCells_at P g 0 T cs'.toList 0 cs w hg (by simp; omega) h1
  have e : (cs.toList.take (0 + 0) ++ cs'.toList ++ cs.toList.drop (0 + 0 + cs'.toList.length)).toArray = cs' := by
    rw [List.drop_of_length_le (by simp; omega)]; simp
  rw [e] at hst
  cases hq : P.info? ty with
  | none => simp [hq] at hi
  | some i =>
    have hs : i.size = cs'.size := by simpa [hq] using hi
    simp [storeVar, Sem.run_bind, sizeOf, typeInfo, hq, hs, Value.cells, hst]
theorem wpList_store_row {ops : Array Oper} {rest : List Oper} {o : Oper} {a : Act} {w : World} {Q : Exit → Act → World → Prop} (hgd : o.guard = none) (ty : TypeId) (x v : Operand) (ho : o.op = .store ty x v) (hd : o.dst = none)
    (g : Nat) (hx : a.eval x = .pointer (some ⟨g, 0, none⟩)) (T : TypeId) (cs cs' : Array Value) (hv : a.eval v = .agg cs') (hg : w.heap[g]? = some (.cells cs T (0, 0)))
    (hl : cs'.size = cs.size) (h1 : (cs'.toList.all fun v => v.oneCell') = true) (hi : (P.info? ty).map (·.size) = some cs'.size)
    (h : ∀ w', Put w w' g cs' T → wpList P ops Q rest a w') : wpList P ops Q (o :: rest) a w :=
  wpList_plain hgd fun _ hK => by
    unfold Oper.wp execOp
    simp only [ho, hx, hv, Instr.storeAt, Instr.sureAddr, Sem.run_bind, Sem.run_pure, Result.andThen_ok, run_storeVar_row w g T ty cs cs' hg hl (List.all_eq_true.1 h1) hi]
    have e : a.put o.dst undef = a := by rw [hd]; rfl
    have h2 := h _ (put_row w g cs cs' T hg)
    rw [← e] at h2
    exact hK _ _ h2
end
end Go.Proofs.Ytfjnkidblalckaa

/- Contract: a checker and a node with others. No condition. (under way) -/
namespace Go.Proofs.Ytfjnkidblalckaa
open Go Go.RowKit


theorem map_same {w w' : World} {bm : Nat} {S : List Key} (h : MapK w bm S) (hg : w.grownBy w' (some bm)) (T : TypeId) : Same T w w' := by
  obtain ⟨es, cl, hq, _⟩ := h
  exact fun k c fr hk => grown_block hg hk (fun e => by injection e with e; rw [e, hq] at hk; cases hk)
end Go.Proofs.Ytfjnkidblalckaa

/- Contracts: schema.Check, schema.Right. -/
namespace Go.Proofs.Ytfjnkidblalckaa
open Go Go.RowKit

theorem bndsE_step {ks : List Knd} {l : List Bnd} {k : Nat} {d : Bnd} {E : ByteArray × Int} (hd : l[k]? = some d) (h : E = bndsE ks (l.take k) (l.drop k)) :
    E = if bndE ks (l.take k) d = 0 then bndsE ks (l.take (k + 1)) (l.drop (k + 1)) else (d.name, bndE ks (l.take k) d) := by
  rw [h, drop_cons hd, bndsE, take_step hd]
def SCheckR (s : Scm) (w : World) (e : Ending) (w' : World) : Prop := e = .returned (.tuple #[.string (scmE s).1, errV (scmE s).2]) ∧ Below w.heap.size w w'
end Go.Proofs.Ytfjnkidblalckaa

/- Contract: what is wrong with a schema and a graph by themselves. No condition. -/
namespace Go.Proofs.Ytfjnkidblalckaa
open Go Go.RowKit

def readySG (s : Scm) (g : Grf) : Int := if (scmE s).2 = 0 then grfE g else (scmE s).2
end Go.Proofs.Ytfjnkidblalckaa

/- Contract: check.Of: all faults of a graph, by a schema, both being right. -/
namespace Go.Proofs.Ytfjnkidblalckaa
open Go Go.RowKit


theorem scm_right {s : Scm} (h : (scmE s).2 = 0) : Right s.kinds ∧ s.bonds.length ≤ 12 := by
  unfold scmE at h
  split at h
  · rename_i h0
    split at h
    · simp at h
    · exact ⟨checkE_zero h0, by omega⟩
  · rename_i h0; exact absurd h h0
theorem Right.ck {s : Scm} (h : Right s.kinds) : CkOk s := by
  refine ⟨h.len, fun k hk => ?_, fun k hk => ?_⟩
  · obtain ⟨i, hi⟩ := List.mem_iff_getElem?.1 hk
    have := (h.one i k hi).ofl
    omega
  · obtain ⟨i, hi⟩ := List.mem_iff_getElem?.1 hk
    exact (h.one i k hi).fll
theorem bFind_casesC (l : List Bnd) (nm : ByteArray) : bFind l nm < 0 ∨ ∃ (i : Nat) (d : Bnd), bFind l nm = i ∧ l[i]? = some d := by
  by_cases h : bFind l nm < 0
  · exact .inl h
  · obtain ⟨i, d, h1, h2, _⟩ := idxI_nonneg (p := fun b : Bnd => decide (b.name = nm)) (l := l) (by unfold bFind at h; omega)
    exact .inr ⟨i, d, h1, h2⟩
theorem tieF_none {s : Scm} {g : Grf} {t : Tie} (h : bFind s.bonds t.bond < 0) : tieF s g t = [⟨5, t.src, t.bond⟩] := by
  unfold tieF
  split
  · rw [if_pos h]
  · rfl
theorem tieF_at {s : Scm} {g : Grf} {t : Tie} {i : Nat} {d : Bnd} (h : bFind s.bonds t.bond = i) (hd : s.bonds[i]? = some d) : tieF s g t = if endB s g t.src d.src = true ∧ endB s g t.dst d.dst = true then [] else [⟨6, t.src, t.bond⟩] := by
  unfold tieF
  rw [h, Int.toNat_natCast, hd]
  simp only
  rw [if_neg (by omega)]
/-- A graph that is right: each node's record is short, and rises. -/
theorem grf_recs {g : Grf} (h : grfE g = 0) : ∀ n ∈ g.nodes, n.props.length ≤ 8 ∧ chain prpLt n.props = true := by
  intro n hn
  obtain ⟨_, _, _, h4⟩ := grf_ok h
  obtain ⟨_, h5⟩ := h4 n hn
  unfold nodE at h5
  split at h5
  · simp at h5
  · split at h5
    · obtain ⟨a, _, c⟩ := rec_ok h5
      exact ⟨a, c⟩
    · rename_i h6; exact absurd h5 h6
end Go.Proofs.Ytfjnkidblalckaa

/- Contracts: check.Faults, check.Conforms, check.NodeFaults. No condition. -/
namespace Go.Proofs.Ytfjnkidblalckaa
open Go Go.RowKit

def faultsR (s : Scm) (g : Grf) : List Flt := if readySG s g = 0 then ofF s g else []
def confR (s : Scm) (g : Grf) : Bool := decide (readySG s g = 0) && decide ((faultsR s g).length = 0)
theorem readySG_zero {s : Scm} {g : Grf} (h : readySG s g = 0) : (scmE s).2 = 0 ∧ grfE g = 0 := by
  unfold readySG at h
  split at h
  · rename_i h0; exact ⟨h0, h⟩
  · rename_i h0; exact absurd h h0
def RetF (l : List Flt) (err : Int) (w : World) (e : Ending) (w' : World) : Prop := ∃ u, e = .returned (.tuple #[u, errV err]) ∧ Sl fltL w' u l ∧ Below w.heap.size w w'

/-! ### A node by itself -/
def nodeFE (s : Scm) (n : Nod) : Int := if (scmE s).2 = 0 then nodE n else (scmE s).2
def nodeFR (s : Scm) (n : Nod) : List Flt := if nodeFE s n = 0 then aloneF s n else []
theorem nodE_rec {n : Nod} (h5 : nodE n = 0) : n.props.length ≤ 8 ∧ chain prpLt n.props = true := by
  unfold nodE at h5
  split at h5
  · simp at h5
  · split at h5
    · obtain ⟨a, _, c⟩ := rec_ok h5
      exact ⟨a, c⟩
    · rename_i h6; exact absurd h5 h6
end Go.Proofs.Ytfjnkidblalckaa

/- Contract: index.OwnSchema; schemas that a call owns. -/
namespace Go.Proofs.Ytfjnkidblalckaa
open Go Go.RowKit

/-- No two kinds have their fields in one block. -/
def FDist (xs : List Value) : Prop := ∀ (i j : Nat) (x y : Value) (b : Nat), i < j → xs[i * 3 + 2]? = some x → xs[j * 3 + 2]? = some y → x.ownBlock = some b → y.ownBlock ≠ some b
theorem FDist.nil : FDist [] := fun i j x y b _ h => by simp at h
theorem FDist.snoc {ys : List Value} {k : Nat} {a u x : Value} (h : FDist ys) (hl : ys.length = k * 3) (hn : ∀ (i : Nat) (y : Value) (b : Nat), ys[i * 3 + 2]? = some y → y.ownBlock = some b → x.ownBlock ≠ some b) : FDist (ys ++ [a, u, x]) := by
  intro i j y z b hij hi hj hb
  have hjl : j * 3 + 2 < (ys ++ [a, u, x]).length := (List.getElem?_eq_some_iff.1 hj).1
  rw [List.length_append, hl] at hjl
  simp only [List.length_cons, List.length_nil] at hjl
  have hil : i * 3 + 2 < ys.length := by omega
  rw [List.getElem?_append_left hil] at hi
  by_cases hjk : j < k
  · rw [List.getElem?_append_left (by omega)] at hj
    exact h i j y z b hij hi hj hb
  · obtain rfl : j = k := by omega
    rw [List.getElem?_append_right (by omega), hl, show j * 3 + 2 - j * 3 = 2 by omega] at hj
    simp at hj
    subst hj
    exact hn i y b hi hb
theorem FDist.put {xs : List Value} {k : Nat} {v : Value} (h : FDist xs) (hn : ∀ (i : Nat) (y : Value) (b : Nat), i ≠ k → xs[i * 3 + 2]? = some y → y.ownBlock = some b → v.ownBlock ≠ some b) : FDist (xs.set (k * 3 + 2) v) := by
  intro i j y z b hij hi hj hb
  rw [List.getElem?_set] at hi hj
  by_cases e1 : k = i
  · subst e1
    rw [if_pos rfl] at hi
    rw [if_neg (by omega)] at hj
    split at hi
    · simp at hi; subst hi
      intro hz
      exact hn j z b (by omega) hj hz hb
    · cases hi
  · rw [if_neg (by omega)] at hi
    by_cases e2 : k = j
    · subst e2
      rw [if_pos rfl] at hj
      split at hj
      · simp at hj; subst hj
        exact hn i y b (fun e => e1 e.symm) hi hb
      · cases hj
    · rw [if_neg (by omega)] at hj
      exact h i j y z b hij hi hj hb
end Go.Proofs.Ytfjnkidblalckaa

/- Contract: kinlaw4.simple. No condition. -/
namespace Go.Proofs.Ytfjnkidblalckaa
open Go Go.RowKit

def simpS (mx : Int) : Scm := ⟨[⟨⟨#[97]⟩, [], [⟨⟨#[107]⟩, 1, true, true⟩]⟩], [⟨⟨#[112]⟩, ⟨#[97]⟩, ⟨#[97]⟩, 0, mx⟩]⟩
end Go.Proofs.Ytfjnkidblalckaa

/- Contracts: kinlaw4.number, kinlaw4.many: so many nodes in a row. -/
namespace Go.Proofs.Ytfjnkidblalckaa
open Go Go.RowKit

def manyNod (i : Nat) : Nod := ⟨(i : Int) + 1, ⟨#[97]⟩, [⟨⟨#[107]⟩, ⟨1, (i : Int) + 1, .empty⟩⟩]⟩
def manyTie (i : Nat) : Tie := ⟨⟨#[112]⟩, (i : Int) + 1, (i : Int) + 2⟩
def manyG (n t : Nat) : Grf := ⟨(List.range n).map manyNod, (List.range t).map manyTie⟩
theorem nod_info : (Try.prog.info? 30).map (fun i => (i.zero, i.size, i.bytes)) = some (some (.agg #[.int .i64 0, .string .empty, .slice none 0 0]), 3, 48) := by kernel_rfl
theorem tie_info : (Try.prog.info? 40).map (fun i => (i.zero, i.size, i.bytes)) = some (some (.agg #[.string .empty, .int .i64 0, .int .i64 0]), 3, 32) := by kernel_rfl
theorem many_snoc (k : Nat) : (List.range (k + 1)).map manyNod = (List.range k).map manyNod ++ [manyNod k] := by rw [List.range_succ, List.map_append]; rfl
theorem many_tsnoc (k : Nat) : (List.range (k + 1)).map manyTie = (List.range k).map manyTie ++ [manyTie k] := by rw [List.range_succ, List.map_append]; rfl

theorem cell_new2 {W : World} {o : Obj} {cs : Array Value} {T : TypeId} {j : Nat} : ((W.alloc o).alloc (.cells cs T)).cell? ⟨W.heap.size + 1, j, none⟩ = cs[j]? := by rw [World.cell?_alloc_at _ _ _ _ (by simp)]
/-- What stands between two rounds. -/
structure ManyI (B : Nat) (w wr : World) (v u : Value) (k m : Nat) (xs ys : List Value) : Prop where
  b : Below B w wr
  r : wr.heap[B]? = some (.cells #[.slice none 0 0, .slice none 0 0] 25 (0, 0))
  g : wr.heap[B + 1]? = some (.cells #[v, u] 25 (0, 0))
  n : Own wr B 30 3 v k xs
  o : OwnNods wr B ((List.range k).map manyNod) xs
  t : Own wr B 40 3 u m ys
  f : ys = ((List.range m).map manyTie).flatMap Tie.enc

theorem ManyI.step {B : Nat} {w wr w2 w7 : World} {v u v7 : Value} {k m : Nat} {xs ys : List Value} (hk : k < 1000) (hI : ManyI B w wr v u k m xs ys) (hb2 : Below wr.heap.size wr w2)
    (hown7 : Own w7 B 30 3 v7 (k + 1) (xs ++ [.int .i64 ((k : Int) + 1), .string ⟨#[97]⟩, .slice (some ⟨w2.heap.size, 0, none⟩) 1 1]))
    (hg7 : ((w2.alloc (.cells #[.string ⟨#[107]⟩, .int .i64 1, .int .i64 ((k : Int) + 1), .string .empty] 38)).alloc (.cells #[.int .i64 ((k : Int) + 1), .string ⟨#[97]⟩, .slice (some ⟨w2.heap.size, 0, none⟩) 1 1] 30)).grownBy w7 v.ownBlock) :
    ManyI B w (w7.setCell ⟨B + 1, 0, none⟩ v7) v7 u (k + 1) m (xs ++ [.int .i64 ((k : Int) + 1), .string ⟨#[97]⟩, .slice (some ⟨w2.heap.size, 0, none⟩) 1 1]) ys := by
  have hbw := hI.b.size
  have hw2 := hb2.size
  have hlB := (Array.getElem?_eq_some_iff.1 hI.g).1
  have up : ∀ (j : Nat) (o : Obj), wr.heap[j]? = some o → ((w2.alloc (.cells #[.string ⟨#[107]⟩, .int .i64 1, .int .i64 ((k : Int) + 1), .string .empty] 38)).alloc (.cells #[.int .i64 ((k : Int) + 1), .string ⟨#[97]⟩, .slice (some ⟨w2.heap.size, 0, none⟩) 1 1] 30)).heap[j]? = some o := fun j o h => by
    have hl := (Array.getElem?_eq_some_iff.1 h).1
    rw [Below.heap_alloc _ _ _ (by simp; omega), Below.heap_alloc _ _ _ (by omega)]
    exact (hb2.block j hl).trans h
  have hoW : Own ((w2.alloc (.cells #[.string ⟨#[107]⟩, .int .i64 1, .int .i64 ((k : Int) + 1), .string .empty] 38)).alloc (.cells #[.int .i64 ((k : Int) + 1), .string ⟨#[97]⟩, .slice (some ⟨w2.heap.size, 0, none⟩) 1 1] 30)) B 30 3 v k xs := ((hI.n.below hb2).alloc _).alloc _
  have hgW := up _ _ hI.g
  have hg7g := grown_block hg7 hgW (hoW.ne_block hgW (by decide))
  have hrW := up _ _ hI.r
  have hr7 := grown_block hg7 hrW (hoW.ne_block hrW (by decide))
  have hsame : ∀ T, 30 ≠ T → 25 ≠ T → Same T ((w2.alloc (.cells #[.string ⟨#[107]⟩, .int .i64 1, .int .i64 ((k : Int) + 1), .string .empty] 38)).alloc (.cells #[.int .i64 ((k : Int) + 1), .string ⟨#[97]⟩, .slice (some ⟨w2.heap.size, 0, none⟩) 1 1] 30)) (w7.setCell ⟨B + 1, 0, none⟩ v7) := fun T h1 h2 =>
    (Same.grown hoW h1 hg7).trans (Same.setCell (p := ⟨B + 1, 0, none⟩) hg7g h2 v7)
  have hfull : ∀ T, 30 ≠ T → 25 ≠ T → Same T wr (w7.setCell ⟨B + 1, 0, none⟩ v7) := fun T h1 h2 => (Same.below hb2).trans ((Same.alloc _ _).trans ((Same.alloc _ _).trans (hsame T h1 h2)))
  have hpb : ((w2.alloc (.cells #[.string ⟨#[107]⟩, .int .i64 1, .int .i64 ((k : Int) + 1), .string .empty] 38)).alloc (.cells #[.int .i64 ((k : Int) + 1), .string ⟨#[97]⟩, .slice (some ⟨w2.heap.size, 0, none⟩) 1 1] 30)).heap[w2.heap.size]? = some (.cells #[.string ⟨#[107]⟩, .int .i64 1, .int .i64 ((k : Int) + 1), .string .empty] 38 (0, 0)) := by
    rw [Below.heap_alloc _ _ _ (by simp)]; exact heap_alloc_new _ _
  have hop : Own ((w2.alloc (.cells #[.string ⟨#[107]⟩, .int .i64 1, .int .i64 ((k : Int) + 1), .string .empty] 38)).alloc (.cells #[.int .i64 ((k : Int) + 1), .string ⟨#[97]⟩, .slice (some ⟨w2.heap.size, 0, none⟩) 1 1] 30)) B 38 4 (.slice (some ⟨w2.heap.size, 0, none⟩) 1 1) 1 [.string ⟨#[107]⟩, .int .i64 1, .int .i64 ((k : Int) + 1), .string .empty] :=
    own_of_block hpb (by omega) rfl (by simp [maxLen])
  refine ⟨?_, ?_, ?_, ?_, ?_, ?_, hI.f⟩
  · have h1 : Below B w w2 := hI.b.trans (hb2.mono (by omega))
    have h2 := ((h1.alloc (by omega) (.cells #[.string ⟨#[107]⟩, .int .i64 1, .int .i64 ((k : Int) + 1), .string .empty] 38)).alloc (by simp; omega) (.cells #[.int .i64 ((k : Int) + 1), .string ⟨#[97]⟩, .slice (some ⟨w2.heap.size, 0, none⟩) 1 1] 30))
    exact (h2.grown hg7 (by simp; omega) (fun j e => (hoW.lt j e).1)).setCell (p := ⟨B + 1, 0, none⟩) (by simp) v7
  · rw [Below.heap_setCell _ _ _ _ (by simp)]; exact hr7
  · exact setCell_block hg7g 0 v7
  · exact hown7.setCell _ _ (fun e => (hown7.ne_block hg7g (by decide)) e.symm)
  · rw [many_snoc]
    exact (hI.o.same (hfull _ (by decide) (by decide))).snoc (d := manyNod k) (by show I64 ((k : Int) + 1); unfold I64; omega) (by show 1 ≤ 1048576; omega)
      (fun p hp => by simp [manyNod] at hp; subst hp; exact ⟨by show 1 ≤ 1048576; omega, by show I64 (1 : Int); unfold I64; omega, by show I64 ((k : Int) + 1); unfold I64; omega, by show 0 ≤ 1048576; omega⟩) (hop.same (hsame _ (by decide) (by decide)))
  · exact hI.t.same (hfull _ (by decide) (by decide))

theorem ManyI.stepT {B : Nat} {w wr w7 : World} {v u u7 : Value} {k m : Nat} {xs ys : List Value} (hI : ManyI B w wr v u k m xs ys)
    (hown7 : Own w7 B 40 3 u7 (m + 1) (ys ++ [.string ⟨#[112]⟩, .int .i64 ((m : Int) + 1), .int .i64 ((m : Int) + 2)]))
    (hg7 : (wr.alloc (.cells #[.string ⟨#[112]⟩, .int .i64 ((m : Int) + 1), .int .i64 ((m : Int) + 2)] 40)).grownBy w7 u.ownBlock) :
    ManyI B w (w7.setCell ⟨B + 1, 1, none⟩ u7) v u7 k (m + 1) xs (ys ++ [.string ⟨#[112]⟩, .int .i64 ((m : Int) + 1), .int .i64 ((m : Int) + 2)]) := by
  have hlB := (Array.getElem?_eq_some_iff.1 hI.g).1
  have up : ∀ (j : Nat) (o : Obj), wr.heap[j]? = some o → (wr.alloc (.cells #[.string ⟨#[112]⟩, .int .i64 ((m : Int) + 1), .int .i64 ((m : Int) + 2)] 40)).heap[j]? = some o := fun j o h => by
    rw [Below.heap_alloc _ _ _ (Array.getElem?_eq_some_iff.1 h).1]; exact h
  have hoW := hI.t.alloc (.cells #[.string ⟨#[112]⟩, .int .i64 ((m : Int) + 1), .int .i64 ((m : Int) + 2)] 40)
  have hgW := up _ _ hI.g
  have hg7g := grown_block hg7 hgW (hoW.ne_block hgW (by decide))
  have hrW := up _ _ hI.r
  have hr7 := grown_block hg7 hrW (hoW.ne_block hrW (by decide))
  have hfull : ∀ T, 40 ≠ T → 25 ≠ T → Same T wr (w7.setCell ⟨B + 1, 1, none⟩ u7) := fun T h1 h2 => (Same.alloc _ _).trans ((Same.grown hoW h1 hg7).trans (Same.setCell (p := ⟨B + 1, 1, none⟩) hg7g h2 u7))
  refine ⟨?_, ?_, ?_, ?_, ?_, ?_, ?_⟩
  · exact ((hI.b.alloc (by omega) _).grown hg7 (by simp; omega) (fun j e => (hoW.lt j e).1)).setCell (p := ⟨B + 1, 1, none⟩) (by simp) u7
  · rw [Below.heap_setCell _ _ _ _ (by simp)]; exact hr7
  · exact setCell_block hg7g 1 u7
  · exact hI.n.same (hfull _ (by decide) (by decide))
  · exact hI.o.same (hfull _ (by decide) (by decide))
  · exact hown7.setCell _ _ (fun e => (hown7.ne_block hg7g (by decide)) e.symm)
  · rw [many_tsnoc, List.flatMap_append, ← hI.f]; rfl
theorem ManyI.ends {B : Nat} {w wr wF : World} {v u : Value} {k m : Nat} {xs ys : List Value} (hm : m ≤ 1000) (hI : ManyI B w wr v u k m xs ys) (hs : ∀ T, 25 ≠ T → Same T wr wF) : GrfR wF v u (manyG k m) := by
  have h1 := hI.n.same (hs _ (by decide))
  have h2 := hI.o.same (hs _ (by decide))
  have h3 := hI.t.same (hs _ (by decide))
  rw [hI.f] at h3
  have hn : k = (manyG k m).nodes.length := by simp [manyG]
  have ht : m = (manyG k m).ties.length := by simp [manyG]
  refine ⟨Own.nods (by rw [← hn]; exact h1) h2, Own.ties (by rw [← ht]; exact h3) fun x hx => ?_⟩
  simp only [manyG, List.mem_map, List.mem_range] at hx
  obtain ⟨j, hj, rfl⟩ := hx
  exact ⟨by show 1 ≤ 1048576; omega, by show I64 ((j : Int) + 1); unfold I64; omega, by show I64 ((j : Int) + 2); unfold I64; omega⟩

/-- The row is the call's own. -/
structure ManyO (B : Nat) (wF : World) (v u : Value) (k m : Nat) (xs : List Value) : Prop where
  n : Own wF B 30 3 v k xs
  o : OwnNods wF B ((List.range k).map manyNod) xs
  t : Own wF B 40 3 u m (((List.range m).map manyTie).flatMap Tie.enc)
theorem ManyI.own {B : Nat} {w wr wF : World} {v u : Value} {k m : Nat} {xs ys : List Value} (hI : ManyI B w wr v u k m xs ys) (hs : ∀ T, 25 ≠ T → Same T wr wF) : ManyO B wF v u k m xs := by
  have h3 := hI.t.same (hs _ (by decide))
  rw [hI.f] at h3
  exact ⟨hI.n.same (hs _ (by decide)), hI.o.same (hs _ (by decide)), h3⟩
end Go.Proofs.Ytfjnkidblalckaa
