/- Parts: ChkQ, Srow, Chk4. -/
import Derived.Test.YtkegnmclhkpbkaaGreatMg16
import Derived.Test.YtkegnmclhkpbkaaGreatMg01
import Derived.Laws.Rows
import Derived.Laws.CopyRow
import Derived.Deep.RegionHeld3
import Derived.Deep.DeepCutAuto
/- Plain: a graph that conforms: each node is right by itself. No condition. -/
namespace Go.Proofs.YtkegnmclhkpbkaaGreat
open Go Go.RowKit

theorem nodeF_alone {s : Scm} {g : Grf} {S : List Key} {n : Nod} (h : (nodeF s g S n).1 = []) : aloneF s n = [] := by
  unfold nodeF at h
  split at h
  · exact h
  · have h1 := (List.append_eq_nil_iff.1 h).1
    exact (List.append_eq_nil_iff.1 h1).1
theorem nodesF_aux {s : Scm} {g : Grf} : ∀ (l : List Nod) (acc : List Flt × List Key), (l.foldl (fun acc n => (acc.1 ++ (nodeF s g acc.2 n).1, (nodeF s g acc.2 n).2)) acc).1 = [] → acc.1 = [] ∧ ∀ n ∈ l, aloneF s n = []
  | [], _, h => ⟨h, by simp⟩
  | n :: r, acc, h => by
    obtain ⟨h1, h2⟩ := nodesF_aux r _ h
    obtain ⟨a1, a2⟩ := List.append_eq_nil_iff.1 h1
    refine ⟨a1, fun m hm => ?_⟩
    rcases List.mem_cons.1 hm with rfl | hm
    · exact nodeF_alone a2
    · exact h2 m hm
theorem ofF_alone {s : Scm} {g : Grf} (h : ofF s g = []) : ∀ n ∈ g.nodes, aloneF s n = [] := by
  unfold ofF at h
  exact (nodesF_aux g.nodes ([], []) (List.append_eq_nil_iff.1 h).1).2
theorem ofF_empty (s : Scm) : ofF s ⟨[], []⟩ = [] := rfl
/-- All that nodes have that are wrong by themselves. -/
def sumA (s : Scm) (l : List Nod) : Nat := (l.map fun n => (aloneF s n).length).sum
theorem sumA_snoc {s : Scm} {l : List Nod} {k : Nat} {n : Nod} (h : l[k]? = some n) : sumA s (l.take (k + 1)) = sumA s (l.take k) + (aloneF s n).length := by
  unfold sumA
  rw [take_snocF h]
  simp
theorem sumA_zero {s : Scm} {l : List Nod} (h : ∀ n ∈ l, aloneF s n = []) : sumA s l = 0 := by
  unfold sumA
  induction l with
  | nil => rfl
  | cons n r ih =>
    have h1 := h n (by simp)
    have h2 := ih (fun m hm => h m (by simp [hm]))
    simp [h1, h2]
theorem sumA_le {s : Scm} {b : Nat} : ∀ {l : List Nod}, (∀ n ∈ l, (aloneF s n).length ≤ b) → sumA s l ≤ l.length * b
  | [], _ => by simp [sumA]
  | n :: r, h => by
    have h1 := h n (by simp)
    have h2 := sumA_le (l := r) (fun m hm => h m (by simp [hm]))
    unfold sumA at h2 ⊢
    simp only [List.map_cons, List.sum_cons, List.length_cons, Nat.succ_mul]
    omega
/-- A schema that is right: each kind's fields are few. -/
theorem kfl_len {s : Scm} (h : Right s.kinds) (nm : ByteArray) : (kfl s nm).length ≤ 8 := by
  unfold kfl
  split
  · simp
  · rename_i hk
    obtain ⟨i, k, _, hk2, hk3, _⟩ := kFind_pos (by omega : 0 ≤ kFind s.kinds nm)
    obtain ⟨fs, h1, h2⟩ := h.fields (List.mem_of_getElem? hk2)
    rw [hk3] at h1
    rw [h1]
    exact h2
theorem flat_le {D E : Type} {f : D → List E} {c : Nat} : ∀ {l : List D}, (∀ x ∈ l, (f x).length ≤ c) → (l.flatMap f).length ≤ l.length * c
  | [], _ => by simp
  | x :: r, h => by
    have h1 := h x (by simp)
    have h2 := flat_le (l := r) (fun y hy => h y (by simp [hy]))
    simp only [List.flatMap_cons, List.length_append, List.length_cons, Nat.succ_mul]
    omega
theorem bondF_len (s : Scm) (g : Grf) (n : Nod) (b : Bnd) : (bondF s g n b).length ≤ 2 := by
  unfold bondF
  split
  · rw [List.length_append]
    split <;> split <;> simp
  · simp
theorem nodeF_len {s : Scm} {g : Grf} {S : List Key} {n : Nod} (hp : n.props.length ≤ 8) (hk : (kfl s n.kind).length ≤ 8) (hb : s.bonds.length ≤ 12) : (nodeF s g S n).1.length ≤ 60 := by
  have h1 := aloneF_len s n
  have h2 := keysF_len n (kfl s n.kind) S
  have h3 := flat_le (l := s.bonds) (f := bondF s g n) (c := 2) (fun b _ => bondF_len s g n b)
  unfold nodeF
  split
  · show (aloneF s n).length ≤ 60
    omega
  · simp only [List.length_append]
    omega
theorem nodesF_len {s : Scm} {g : Grf} (hk : ∀ nm, (kfl s nm).length ≤ 8) (hb : s.bonds.length ≤ 12) : ∀ (l : List Nod) (acc : List Flt × List Key), (∀ n ∈ l, n.props.length ≤ 8) → (l.foldl (fun acc n => (acc.1 ++ (nodeF s g acc.2 n).1, (nodeF s g acc.2 n).2)) acc).1.length ≤ acc.1.length + l.length * 60
  | [], _, _ => by simp
  | n :: r, acc, h => by
    have h1 := nodesF_len (g := g) hk hb r (acc.1 ++ (nodeF s g acc.2 n).1, (nodeF s g acc.2 n).2) (fun m hm => h m (by simp [hm]))
    have h2 := nodeF_len (g := g) (S := acc.2) (h n (by simp)) (hk n.kind) hb
    simp only [List.length_append] at h1
    simp only [List.foldl_cons, List.length_cons, Nat.succ_mul]
    omega
theorem nodesF_le {s : Scm} {g : Grf} (hk : ∀ nm, (kfl s nm).length ≤ 8) (hb : s.bonds.length ≤ 12) (h : ∀ n ∈ g.nodes, n.props.length ≤ 8) (k : Nat) : (nodesF s g (g.nodes.take k)).1.length ≤ k * 60 := by
  have h1 := nodesF_len (g := g) hk hb (g.nodes.take k) ([], []) (fun n hn => h n (List.mem_of_mem_take hn))
  have h2 : (g.nodes.take k).length ≤ k := by rw [List.length_take]; omega
  have h3 : (nodesF s g (g.nodes.take k)).1.length ≤ 0 + (g.nodes.take k).length * 60 := h1
  have h4 : (g.nodes.take k).length * 60 ≤ k * 60 := Nat.mul_le_mul_right _ h2
  omega
theorem tieF_len (s : Scm) (g : Grf) (t : Tie) : (tieF s g t).length ≤ 1 := by
  unfold tieF
  split
  · split
    · simp
    · split <;> simp
  · simp
theorem tieF_le (s : Scm) (g : Grf) (k : Nat) : ((g.ties.take k).flatMap (tieF s g)).length ≤ k := by
  have h1 := flat_le (l := g.ties.take k) (f := tieF s g) (c := 1) (fun t _ => tieF_len s g t)
  have h2 : (g.ties.take k).length ≤ k := by rw [List.length_take]; omega
  omega
/-- The fields that are keys. -/
theorem keyOf_none {n : Nod} {f : Fld} (h : f.key = false ∨ rhas n.props f.name = false) : keyOf n f = none := by
  unfold keyOf
  split
  · rw [if_neg]
    rintro ⟨h1, h2, _⟩
    rcases h with h | h
    · rw [h] at h1; cases h1
    · rw [h] at h2; cases h2
  · rfl
theorem keyOf_at {n : Nod} {f : Fld} {p : Prp} (h1 : f.key = true) (h2 : rhas n.props f.name = true) (hp : n.props[rpos n.props f.name]? = some p) : keyOf n f = if p.v.ty = f.ty then some ⟨f.name, p.v⟩ else none := by
  unfold keyOf
  rw [hp]
  simp [h1, h2]
end Go.Proofs.YtkegnmclhkpbkaaGreat

/- Plain: a whole struct is stored into a block of its own type. No condition. -/
namespace Go.Proofs.YtkegnmclhkpbkaaGreat
open Go Go.RowKit
section
variable {P : Program}

/-- A block is another one, all else stays. -/
structure Put (w w' : World) (g : Nat) (cs : Array Value) (T : TypeId) : Prop where
  q : w'.heap[g]? = some (.cells cs T (0, 0))
  b : ∀ B, B ≤ g → Below B w w'
  o : ∀ k, k ≠ g → w'.heap[k]? = w.heap[k]?
  s : w'.heap.size = w.heap.size
theorem put_row (w : World) (g : Nat) (cs cs' : Array Value) (T : TypeId) (hg : w.heap[g]? = some (.cells cs T (0, 0))) : Put w (w.setRow g cs') g cs' T := by
  have ho : ∀ k, k ≠ g → (w.setRow g cs').heap[k]? = w.heap[k]? := fun k hk => by
    simp only [World.setRow, Array.getElem?_modify]
    rw [if_neg (fun e => hk e.symm)]
  have hs : (w.setRow g cs').heap.size = w.heap.size := by simp [World.setRow]
  exact ⟨setRow_heap w g cs cs' T (0, 0) hg, fun B hB => ⟨rfl, rfl, rfl, by rw [hs]; exact Nat.le_refl _, fun k hk => ho k (by omega)⟩, ho, hs⟩
theorem run_storeVar_row (w : World) (g : Nat) (T ty : TypeId) (cs cs' : Array Value) (hg : w.heap[g]? = some (.cells cs T (0, 0))) (hl : cs'.size = cs.size) (h1 : ∀ v ∈ cs'.toList, v.oneCell' = true) (hi : (P.info? ty).map (·.size) = some cs'.size) :
    (storeVar ty ⟨g, 0, none⟩ (.agg cs')).run P w = .ok () (w.setRow g cs') := by
  have hst := run_storeCells_at P g 0 T cs'.toList 0 cs w hg (by simp; omega) h1
  have e : (cs.toList.take (0 + 0) ++ cs'.toList ++ cs.toList.drop (0 + 0 + cs'.toList.length)).toArray = cs' := by
    rw [List.drop_of_length_le (by simp; omega)]; simp
  rw [e] at hst
  cases hq : P.info? ty with
  | none => simp [hq] at hi
  | some i =>
    have hs : i.size = cs'.size := by simpa [hq] using hi
    simp [storeVar, Sem.run_bind, sizeOf, typeInfo, hq, hs, Value.cells, hst]
theorem wpList_store_row {ops : Array Oper} {rest : List Oper} {o : Oper} {a : Act} {w : World} {Q : Exit → Act → World → Prop} (hgd : o.guard = none) (ty : TypeId) (x v : Operand) (ho : o.op = .store ty x v) (hd : o.dst = none)
    (g : Nat) (hx : a.eval x = .pointer (some ⟨g, 0, none⟩)) (T : TypeId) (cs cs' : Array Value) (hv : a.eval v = .agg cs') (hg : w.heap[g]? = some (.cells cs T (0, 0)))
    (hl : cs'.size = cs.size) (h1 : (cs'.toList.all fun v => v.oneCell') = true) (hi : (P.info? ty).map (·.size) = some cs'.size)
    (h : ∀ w', Put w w' g cs' T → wpList P ops Q rest a w') : wpList P ops Q (o :: rest) a w :=
  wpList_plain hgd fun _ hK => by
    unfold Oper.wp execOp
    simp only [ho, hx, hv, Instr.storeAt, Instr.sureAddr, Sem.run_bind, Sem.run_pure, Result.andThen_ok, run_storeVar_row w g T ty cs cs' hg hl (List.all_eq_true.1 h1) hi]
    have e : a.put o.dst undef = a := by rw [hd]; rfl
    have h2 := h _ (put_row w g cs cs' T hg)
    rw [← e] at h2
    exact hK _ _ h2
end
end Go.Proofs.YtkegnmclhkpbkaaGreat

/- Contract: a checker and a node with others. No condition. (under way) -/
namespace Go.Proofs.YtkegnmclhkpbkaaGreat
open Go Go.RowKit


/-- What has come of a checker that told more, and whose map may hold more keys. -/
structure Told2 (B bm : Nat) (w w' : World) (bc : Nat) (vk vb vn vt : Value) (fs : List Flt) (S : List Key) : Prop where
  c : ∃ out, Ck B w' bc vk vb vn vt (.map (some bm)) out fs
  b : Below B w w'
  s : ∀ T, 60 ≠ T → 103 ≠ T → Same T w w'
  m : MapK w' bm S
  z : w.heap.size ≤ w'.heap.size
theorem Told1.two {B bm : Nat} {w w' : World} {bc : Nat} {vk vb vn vt : Value} {fs : List Flt} {S : List Key} (h : Told1 B w w' bc vk vb vn vt (.map (some bm)) fs) (hm : MapK w bm S) : Told2 B bm w w' bc vk vb vn vt fs S :=
  ⟨h.c, h.b, h.s, hm.keep (h.m bm), h.z⟩
theorem Told2.tell {B bm : Nat} {w w1 w2 : World} {bc : Nat} {vk vb vn vt : Value} {fs gs : List Flt} {S : List Key} (h : Told2 B bm w w1 bc vk vb vn vt fs S) (k : Told1 B w1 w2 bc vk vb vn vt (.map (some bm)) gs) : Told2 B bm w w2 bc vk vb vn vt gs S :=
  ⟨k.c, h.b.trans k.b, fun T h1 h2 => (h.s T h1 h2).trans (k.s T h1 h2), h.m.keep (k.m bm), Nat.le_trans h.z k.z⟩
theorem Told2.last {B bm : Nat} {w w1 w2 : World} {bc : Nat} {vk vb vn vt : Value} {fs : List Flt} {S : List Key} (h : Told2 B bm w w1 bc vk vb vn vt fs S) (hB : B ≤ w1.heap.size) (hb : Below w1.heap.size w1 w2) : Told2 B bm w w2 bc vk vb vn vt fs S := by
  obtain ⟨out, hc⟩ := h.c
  exact ⟨⟨out, hc.below hb⟩, h.b.trans (hb.mono hB), fun T h1 h2 => (h.s T h1 h2).trans (Same.below hb), h.m.keep (fun m c hm => (hb.block _ (Array.getElem?_eq_some_iff.1 hm).1).trans hm), Nat.le_trans h.z hb.size⟩
theorem Told2.put {B bm : Nat} {w w1 w2 : World} {bc : Nat} {vk vb vn vt : Value} {fs : List Flt} {S S' : List Key} (h : Told2 B bm w w1 bc vk vb vn vt fs S) (hB : B ≤ w1.heap.size) (hbm : B ≤ bm) (hg : w1.grownBy w2 (some bm)) (hm : MapK w2 bm S') : Told2 B bm w w2 bc vk vb vn vt fs S' := by
  obtain ⟨es, cl, hq, _⟩ := h.m
  have hsame : ∀ T, Same T w1 w2 := fun T k c fr hk => grown_block hg hk (fun e => by injection e with e; rw [e, hq] at hk; cases hk)
  obtain ⟨out, hc⟩ := h.c
  exact ⟨⟨out, ⟨hsame _ _ _ _ hc.q, hc.l, hc.o.same (hsame _), hc.k⟩⟩, h.b.grown hg hB (fun k e => by cases e; exact hbm), fun T h1 h2 => (h.s T h1 h2).trans (hsame T), hm, Nat.le_trans h.z hg.size⟩
theorem map_same {w w' : World} {bm : Nat} {S : List Key} (h : MapK w bm S) (hg : w.grownBy w' (some bm)) (T : TypeId) : Same T w w' := by
  obtain ⟨es, cl, hq, _⟩ := h
  exact fun k c fr hk => grown_block hg hk (fun e => by injection e with e; rw [e, hq] at hk; cases hk)
set_option maxRecDepth 100000 in
set_option maxHeartbeats 16000000 in
theorem node_any (B bc bm : Nat) (vk vb vn vt out : Value) (fs : List Flt) (S : List Key) (s : Scm) (g : Grf) (n : Nod) (u : Value) (W1 w : World) (hBW : B = W1.heap.size) (hbm : B ≤ bm) (hW : Below W1.heap.size W1 w) (hC : Ck B w bc vk vb vn vt (.map (some bm)) out fs) (hM : MapK w bm S)
    (hs : ScmR W1 vk vb s) (hok : CkOk s) (hbl : s.bonds.length ≤ 12) (hg : GrfR W1 vn vt g) (htl : g.ties.length ≤ 1000) (hu : Sl prpL W1 u n.props) (hid : I64 n.id) (hkd : Sm n.kind) (hch : chain prpLt n.props = true) (hpl : n.props.length ≤ 1000) (hfl : (kfl s n.kind).length ≤ 1000) (hl : fs.length ≤ 80000) :
    Calls Tryz.prog 47 #[.pointer (some ⟨bc, 0, none⟩), .agg #[.int .i64 n.id, .string n.kind, u]] w fun e w' => e = .returned (.tuple #[]) ∧ Told2 B bm w w' bc vk vb vn vt (fs ++ (nodeF s g S n).1) (nodeF s g S n).2 := by
  obtain ⟨Au, cu, rfl, _, _⟩ := hu.form
  obtain ⟨Ak, ck, rfl, _, _⟩ := hs.1.form
  obtain ⟨Ab, cb, rfl, _, _⟩ := hs.2.form
  obtain ⟨An, cn, rfl, _, _⟩ := hg.1.form
  obtain ⟨At, ct, rfl, _, _⟩ := hg.2.form
  have hb0 : Below w.heap.size w (w.alloc (.cells #[.int .i64 n.id, .string n.kind, .slice Au n.props.length cu] 34)) := (Below.refl _ _).alloc (Nat.le_refl _) _
  have g0 := heap_alloc_new w (.cells #[.int .i64 n.id, .string n.kind, .slice Au n.props.length cu] 34)
  generalize hW0 : w.alloc (.cells #[.int .i64 n.id, .string n.kind, .slice Au n.props.length cu] 34) = W0 at *
  have hwB : B ≤ w.heap.size := by rw [hBW]; exact hW.size
  have hB0 : B ≤ W0.heap.size := Nat.le_trans hwB hb0.size
  have hW01 : Below W1.heap.size W1 W0 := hW.trans (hb0.mono hW.size)
  have hC0 := hC.below hb0
  have hM0 : MapK W0 bm S := hM.keep (fun m c hm => (hb0.block _ (Array.getElem?_eq_some_iff.1 hm).1).trans hm)
  have hal := alone_any B bc _ _ (.slice An g.nodes.length cn) (.slice At g.ties.length ct) (.map (some bm)) out fs s n _ W1 W0 hBW hW01 hC0 hs hok hu hid hkd hch hpl hfl (by omega)
  have x0 := block_cell g0 0
  have x1 := block_cell g0 1
  have x2 := block_cell g0 2
  have HG0 := Lib.hid g0
  have HS := Lib.hid hs
  have HG := Lib.hid hg
  have HU := Lib.hid hu
  have HM0 := Lib.hid hM0
  have HMw := Lib.hid hM
  have HBW := Lib.hid hBW
  have HB0 := Lib.hid hb0
  have HNF : Hid (nodeF s g S n = if kFind s.kinds n.kind < 0 then (aloneF s n, S) else (aloneF s n ++ (keysF n (kfl s n.kind) S).1 ++ s.bonds.flatMap (bondF s g n), (keysF n (kfl s n.kind) S).2)) := rfl
  clear hC hM hs hg hu hC0 g0 hM0 hBW hb0
  go_enter Tryz.func47, Tryz.ntmps47
  go_wp2_with fail
  refine hal.mono ?_
  clear hal hW0
  rintro e w2 ⟨v2, rfl, ho2, hok2, ht2⟩
  have HT2 := Lib.hid ht2
  have hg2 := ht2.s 34 (by decide) (by decide) _ _ _ HG0.out
  have HM2 := Lib.hid (HM0.out.keep (ht2.m bm))
  clear ht2 x0 x1 x2
  have HT := Lib.hid ((Told1.first HB0.out hwB HT2.out).two HMw.out)
  have hz2 := HT2.out.z
  by_cases hk : kFind s.kinds n.kind < 0
  · have HA : Hid (nodeF s g S n = (aloneF s n, S)) := by unfold Hid; rw [HNF.out, if_pos hk]
    rw [decide_eq_false (by omega : ¬ (0 ≤ kFind s.kinds n.kind))]
    clear hk HNF ho2 hok2
    go_wp2_with fail
    exact bodyPost_ret (v := .tuple #[]) (by simp [results, Tryz.results47, go_sem]) rfl ⟨rfl, by rw [HA.out]; exact HT.out⟩
  have HA : Hid (nodeF s g S n = (aloneF s n ++ (keysF n (kfl s n.kind) S).1 ++ s.bonds.flatMap (bondF s g n), (keysF n (kfl s n.kind) S).2)) := by unfold Hid; rw [HNF.out, if_neg hk]
  rw [decide_eq_true (by omega : 0 ≤ kFind s.kinds n.kind)]
  obtain ⟨A2, c2, rfl, _, _⟩ := ho2.form
  have HO := Lib.hid ho2
  have HOK := Lib.hid hok2
  have HG2 := Lib.hid hg2
  have hal9 : (aloneF s n).length ≤ 2001 := by have h := aloneF_len s n; omega
  generalize hfl0 : kfl s n.kind = fl at *
  have hfl' : (fl.length : Int) ≤ 1000 := by omega
  clear hk HNF ho2 hok2 hfl0 HT2 HM2 HM0 HG0 hg2 HMw
  go_wp2_with fail
  go_loopw [24] (fun i wr => ∃ k : Nat, k ≤ fl.length ∧ i = .int .i64 k ∧ Hid (Told2 B bm w wr bc (.slice Ak s.kinds.length ck) (.slice Ab s.bonds.length cb) (.slice An g.nodes.length cn) (.slice At g.ties.length ct) (fs ++ aloneF s n ++ (keysF n (fl.take k) S).1) (keysF n (fl.take k) S).2) ∧
    wr.heap[w.heap.size]? = some (.cells #[.int .i64 n.id, .string n.kind, .slice Au n.props.length cu] 34 (0, 0)) ∧ Hid (Own wr B 135 4 (.slice A2 fl.length c2) fl.length (fl.flatMap Fld.enc))) (fun i _ => fl.length - (intOf i).toNat)
  case atStart => exact ⟨0, Nat.zero_le _, rfl, by unfold Hid; simpa [keysF] using HT.out, HG2.out, HO.out⟩
  case round =>
    clear HT HG2 HO hz2
    obtain ⟨k, hk, rfl, HT, hg, HO⟩ := hrel
    have y0 := block_cell hg 0
    have y2 := block_cell hg 2
    by_cases hlt : k < fl.length
    · obtain ⟨f, hd⟩ : ∃ d, fl[k]? = some d := ⟨_, List.getElem?_eq_getElem hlt⟩
      have hWr : Below W1.heap.size W1 wr := by have h := HT.out.b; rw [HBW.out] at h; exact hW.trans h
      obtain ⟨gb, o, rfl, hok2, q0, q1, q2, q3⟩ := fld_at (HO.out.flds HOK.out) hd
      have hlt' : (k : Int) < (fl.length : Int) := by omega
      have ha1 : Below wr.heap.size wr (wr.alloc (.cells #[.string f.name, .int .i64 f.ty, .bool f.must, .bool f.key] 135)) := (Below.refl _ _).alloc (Nat.le_refl _) _
      obtain ⟨z0, z1, z2, z3⟩ := cell_box4 wr (.string f.name) (.int .i64 f.ty) (.bool f.must) (.bool f.key) 135
      have y0 := cell_below ha1 y0
      have y2 := cell_below ha1 y2
      have hBr : B ≤ wr.heap.size := by have := HT.out.z; omega
      have HS : Hid (keysF n (fl.take (k + 1)) S = keyStep n (keysF n (fl.take k) S) f) := by unfold Hid; rw [take_snocF hd, keysF_snoc]
      have HT1 := Lib.hid (HT.out.last hBr ha1)
      have hg1 := (ha1.block _ (Array.getElem?_eq_some_iff.1 hg).1).trans hg
      have HO1 := Lib.hid (HO.out.below ha1)
      have HOKF : Hid (Sm f.name) := hok2.1
      have hBa : B ≤ (wr.alloc (.cells #[.string f.name, .int .i64 f.ty, .bool f.must, .bool f.key] 135)).heap.size := by simp; omega
      have hrf := rfind_any n.props f.name _ _ ((HU.out.below hWr).below ha1) hch hpl
      have hWa := hWr.trans (ha1.mono hWr.size)
      clear hd hok2 HT hWr hg HO
      go_upto_region 6 with fail
      generalize wr.alloc (.cells #[.string f.name, .int .i64 f.ty, .bool f.must, .bool f.key] 135) = Wa at *
      go_wp2_with fail
      refine hrf.mono ?_
      clear hrf
      rintro e w3 ⟨rfl, hb3⟩
      have z0 := cell_below hb3 z0
      have z1 := cell_below hb3 z1
      have z3 := cell_below hb3 z3
      have y0 := cell_below hb3 y0
      have y2 := cell_below hb3 y2
      have HT3 := Lib.hid (HT1.out.last hBa hb3)
      have hg3 := (hb3.block _ (Array.getElem?_eq_some_iff.1 hg1).1).trans hg1
      have HO3 := Lib.hid (HO1.out.below hb3)
      have hB3 : B ≤ w3.heap.size := Nat.le_trans hBa hb3.size
      have hW3 := hWa.trans (hb3.mono hWa.size)
      clear HT1 hg1 HO1 hb3 z2 hWa
      have HKN : Hid (f.key = false ∨ rhas n.props f.name = false → keyOf n f = none) := keyOf_none
      have HKA : Hid (∀ p, f.key = true → rhas n.props f.name = true → n.props[rpos n.props f.name]? = some p → keyOf n f = if p.v.ty = f.ty then some ⟨f.name, p.v⟩ else none) := fun p h1 h2 h3 => keyOf_at h1 h2 h3
      have HST : Hid (∀ acc, keyOf n f = none → keyStep n acc f = acc) := fun acc h => by unfold keyStep; rw [h]
      have HRS : Hid (rhas n.props f.name = true → ∃ p, n.props[rpos n.props f.name]? = some p) := rhas_some
      generalize rhas n.props f.name = q at *
      generalize rpos n.props f.name = ps at *
      generalize hfk : f.key = fk at *
      cases fk with
      | false =>
        have HN : Hid (keysF n (fl.take (k + 1)) S = keysF n (fl.take k) S) := by unfold Hid; rw [HS.out]; exact HST.out _ (HKN.out (.inl rfl))
        clear HS HST HKN HKA HRS hfk
        go_wp2_with fail
        go_quiet (fail)
        go_wp2_with fail
        go_roundw
        case rel => exact ⟨k + 1, by omega, by go_num, by rw [HN.out]; exact HT3.out.last hB3 (below_drewN (Below.refl _ _) nq), hg3, HO3.out.drewN nq⟩
        case measure => simp [intOf]; omega
      | true =>
        cases q with
        | false =>
          have HN : Hid (keysF n (fl.take (k + 1)) S = keysF n (fl.take k) S) := by unfold Hid; rw [HS.out]; exact HST.out _ (HKN.out (.inr rfl))
          clear HS HST HKN HKA HRS hfk
          go_wp2_with fail
          go_quiet (fail)
          go_wp2_with fail
          go_roundw
          case rel => exact ⟨k + 1, by omega, by go_num, by rw [HN.out]; exact HT3.out.last hB3 (below_drewN (Below.refl _ _) nq), hg3, HO3.out.drewN nq⟩
          case measure => simp [intOf]; omega
        | true =>
          obtain ⟨p, hp⟩ := HRS.out rfl
          have hpl2 := (List.getElem?_eq_some_iff.1 hp).1
          have hpl3 : (ps : Int) < (n.props.length : Int) := by omega
          have hps0 : (0 : Int) ≤ (ps : Int) := by omega
          obtain ⟨gb2, o2, rfl, hokp, r0, r1, r2, r3⟩ := prp_at (HU.out.below hW3) hp
          have HKY := Lib.hid (HKA.out p rfl rfl hp)
          clear HKN HKA HRS hfk hp
          by_cases ht : p.v.ty = f.ty
          case neg =>
            have hb1 : (p.v.ty != f.ty) = true := by rw [bne_iff_ne]; exact ht
            have HN : Hid (keysF n (fl.take (k + 1)) S = keysF n (fl.take k) S) := by unfold Hid; rw [HS.out]; exact HST.out _ (by rw [HKY.out, if_neg ht])
            clear HS HST HKY ht
            go_wp2_with fail
            go_quiet (fail)
            go_wp2_with fail
            go_roundw
            case rel => exact ⟨k + 1, by omega, by go_num, by rw [HN.out]; exact HT3.out.last hB3 (below_drewN (Below.refl _ _) nq), hg3, HO3.out.drewN nq⟩
            case measure => simp [intOf]; omega
          have hb1 : (p.v.ty != f.ty) = false := by rw [bne_eq_false_iff_eq]; exact ht
          have HKY2 : Hid (keyOf n f = some ⟨f.name, p.v⟩) := by unfold Hid; rw [HKY.out, if_pos ht]
          clear HKY HST ht
          go_wp2_with fail
          go_quiet (fail)
          have hbq : Below w3.heap.size w3 (w3.drewN nq) := below_drewN (Below.refl _ _) nq
          generalize w3.drewN nq = w4 at *
          have z0 := cell_below hbq z0
          have y0 := cell_below hbq y0
          have y2 := cell_below hbq y2
          have r1 := cell_below hbq r1
          have r2 := cell_below hbq r2
          have r3 := cell_below hbq r3
          go_wp2_with fail
          have hbd : Below w4.heap.size w4 w4.drew := (Below.refl _ _).drew
          have hkeep := And.intro (cell_below hbd z0) (And.intro (cell_below hbd y2) (And.intro (cell_below hbd r1) (And.intro (cell_below hbd r2) (cell_below hbd r3))))
          go_region_held3 (fun w' => w'.cell? ⟨wr.heap.size, 0, none⟩ = some (.string f.name) ∧ w'.cell? ⟨w.heap.size, 2, none⟩ = some (.slice (some ⟨gb2, o2, none⟩) n.props.length cu) ∧ w'.cell? ⟨gb2, o2 + ps * 4 + 1, none⟩ = some (.int .i64 p.v.ty) ∧ w'.cell? ⟨gb2, o2 + ps * 4 + 2, none⟩ = some (.int .i64 p.v.n) ∧ w'.cell? ⟨gb2, o2 + ps * 4 + 3, none⟩ = some (.string p.v.s))
            (first
              | exact hkeep
              | go_keep)
            (fail)
          have hbx : Below w4.heap.size w4 (w4.alloc (.cells #[.string f.name, .int .i64 p.v.ty, .int .i64 p.v.n, .string p.v.s] 137)).drew := ((Below.refl _ _).alloc (Nat.le_refl _) _).drew
          have hkq : ((w4.alloc (.cells #[.string f.name, .int .i64 p.v.ty, .int .i64 p.v.n, .string p.v.s] 137)).drew).heap[w4.heap.size]? = some (.cells #[.string f.name, .int .i64 p.v.ty, .int .i64 p.v.n, .string p.v.s] 137 (0, 0)) := heap_alloc_new w4 _
          generalize (w4.alloc (.cells #[.string f.name, .int .i64 p.v.ty, .int .i64 p.v.n, .string p.v.s] 137)).drew = w5 at *
          have hb35 := hbq.trans (hbx.mono hbq.size)
          have HT5 := Lib.hid (HT3.out.last hB3 hb35)
          have hg5 := (hb35.block _ (Array.getElem?_eq_some_iff.1 hg3).1).trans hg3
          have HO5 := Lib.hid (HO3.out.below hb35)
          have hB5 : B ≤ w5.heap.size := Nat.le_trans hB3 hb35.size
          have z0 := cell_below hbx z0
          have y0 := cell_below hbx y0
          have k0 := block_cell hkq 0
          have k1 := block_cell hkq 1
          have k2 := block_cell hkq 2
          have k3 := block_cell hkq 3
          obtain ⟨out5, hc5⟩ := HT5.out.c
          have m5 := block_cell hc5.q 5
          have hlk : ∀ nn, (Instr.lookup 101 (.map (some bm)) (.agg #[.string f.name, .int .i64 p.v.ty, .int .i64 p.v.n, .string p.v.s]) false).run Tryz.prog (w5.drewN nn) = .ok (.bool (decide ((⟨f.name, p.v⟩ : Key) ∈ (keysF n (fl.take k) S).2))) (w5.drewN nn) := fun nn => (HT5.out.m.keep (w' := w5.drewN nn) (fun _ _ h => h)).look ⟨f.name, p.v⟩
          clear hkeep hbd hbq hbx HT3 hg3 HO3 hb35 y2 r0 r1 r2 r3 z1 z3 q0 q1 q2 q3
          by_cases hin : (⟨f.name, p.v⟩ : Key) ∈ (keysF n (fl.take k) S).2
          · rw [decide_eq_true hin] at hlk
            go_wp2_with fail
            go_quiet (fail)
            have hbq5 : Below w5.heap.size w5 (w5.drewN nq) := below_drewN (Below.refl _ _) nq
            have hkq := (hbq5.block _ (Array.getElem?_eq_some_iff.1 hkq).1).trans hkq
            have HT6 := Lib.hid (HT5.out.last hB5 hbq5)
            have hg6 := (hbq5.block _ (Array.getElem?_eq_some_iff.1 hg5).1).trans hg5
            have HO6 := Lib.hid (HO5.out.below hbq5)
            have hB6 : B ≤ (w5.drewN nq).heap.size := Nat.le_trans hB5 hbq5.size
            have z0 := cell_below hbq5 z0
            have y0 := cell_below hbq5 y0
            generalize w5.drewN nq = w6 at *
            obtain ⟨out6, hc6⟩ := HT6.out.c
            have hkl : (keysF n (fl.take k) S).1.length ≤ 1000 := Nat.le_trans (keysF_len n _ S) (by rw [List.length_take]; omega)
            have htell := tell_any B bc _ _ _ _ _ out6 _ ⟨4, n.id, f.name⟩ w6 hB6 hc6 ⟨⟨by show (-9223372036854775808 : Int) ≤ 4; omega, by show (4 : Int) ≤ 9223372036854775807; omega⟩, hid, HOKF.out⟩ (by rw [List.length_append, List.length_append]; omega)
            have HKQ := Lib.hid hkq
            clear hlk k0 k1 k2 k3 hbq5 HT5 hg5 HO5 hc5 hc6 m5 hkq
            go_wp2_with fail
            refine htell.mono ?_
            clear htell
            rintro e w7 ⟨rfl, ht7⟩
            have HT7 := Lib.hid (HT6.out.tell ht7)
            have hg7 := ht7.s 34 (by decide) (by decide) _ _ _ hg6
            have HO7 := Lib.hid (HO6.out.same (ht7.s 135 (by decide) (by decide)))
            have hkq := ht7.s 137 (by decide) (by decide) _ _ _ HKQ.out
            obtain ⟨out7, hc7⟩ := HT7.out.c
            have m5 := block_cell hc7.q 5
            clear ht7 HT6 hg6 HO6 hc7 HKQ z0 y0
            go_wp2_with fail
            -- w7: the world; HT7: what has been told; hg7: the node's box; HO7: the fields; if_true: what the keys are then
            have hbd9 : Below w7.heap.size w7 w7.drew := (Below.refl _ _).drew
            have hMd := (HT7).out.m.keep (w' := w7.drew) (fun _ _ h => h)
            obtain ⟨w9, hput0, hM9, hg9⟩ := hMd.put ⟨f.name, p.v⟩
            have hput : (Instr.mapUpdate 101 (.map (some bm)) (.agg #[.string f.name, .int .i64 p.v.ty, .int .i64 p.v.n, .string p.v.s]) (.bool true)).run Tryz.prog w7.drew = .ok () w9 := hput0
            have hs9 := map_same hMd hg9
            have hB9 : B ≤ w7.drew.heap.size := by have := (HT7).out.z; have := hbd9.size; omega
            have HP9 := Lib.hid (((HT7).out.last hB9 hbd9).put hB9 hbm hg9 hM9)
            have hg9n := hs9 34 _ _ _ (hg7)
            have HO9 := Lib.hid (((HO7).out.below hbd9).same (hs9 135))
            have hkq9 := hs9 137 _ _ _ hkq
            have hkeep := And.intro m5 (And.intro (block_cell hkq 0) (And.intro (block_cell hkq 1) (And.intro (block_cell hkq 2) (block_cell hkq 3))))
            obtain ⟨out9, hc9⟩ := HP9.out.c
            have hkeep9 := And.intro (block_cell hc9.q 5) (And.intro (block_cell hkq9 0) (And.intro (block_cell hkq9 1) (And.intro (block_cell hkq9 2) (block_cell hkq9 3))))
            clear hput0 hM9 hg9 hMd hc9 hs9
            go_region_held3 (fun w' => w'.cell? ⟨bc, 5, none⟩ = some (.map (some bm)) ∧ w'.cell? ⟨w4.heap.size, 0, none⟩ = some (.string f.name) ∧ w'.cell? ⟨w4.heap.size, 1, none⟩ = some (.int .i64 p.v.ty) ∧ w'.cell? ⟨w4.heap.size, 2, none⟩ = some (.int .i64 p.v.n) ∧ w'.cell? ⟨w4.heap.size, 3, none⟩ = some (.string p.v.s))
              (first
                | exact hkeep
                | exact hkeep9
                | go_keep)
              (fail)
            all_goals
              go_wp2_with fail
              go_roundw
              case rel => exact ⟨k + 1, by omega, by go_num, by
                unfold Hid
                rw [HS.out]
                unfold keyStep
                rw [HKY2.out]
                have h := HP9.out
                simp only [hin, if_true] at h ⊢
                simpa using h, hg9n, HO9.out⟩
              case measure => simp [intOf]; omega
          · rw [decide_eq_false hin] at hlk
            go_wp2_with fail
            go_quiet (fail)
            have hbq5 : Below w5.heap.size w5 (w5.drewN nq) := below_drewN (Below.refl _ _) nq
            have hkq := (hbq5.block _ (Array.getElem?_eq_some_iff.1 hkq).1).trans hkq
            have m5 := cell_below hbq5 m5
            have HT6 := Lib.hid (HT5.out.last hB5 hbq5)
            have hg6 := (hbq5.block _ (Array.getElem?_eq_some_iff.1 hg5).1).trans hg5
            have HO6 := Lib.hid (HO5.out.below hbq5)
            generalize w5.drewN nq = w6 at *
            clear hlk z0 y0 k0 k1 k2 k3 hbq5 HT5 hg5 HO5 hc5
            go_wp2_with fail
            -- w6: the world; HT6: what has been told; hg6: the node's box; HO6: the fields; if_false: what the keys are then
            have hbd9 : Below w6.heap.size w6 w6.drew := (Below.refl _ _).drew
            have hMd := (HT6).out.m.keep (w' := w6.drew) (fun _ _ h => h)
            obtain ⟨w9, hput0, hM9, hg9⟩ := hMd.put ⟨f.name, p.v⟩
            have hput : (Instr.mapUpdate 101 (.map (some bm)) (.agg #[.string f.name, .int .i64 p.v.ty, .int .i64 p.v.n, .string p.v.s]) (.bool true)).run Tryz.prog w6.drew = .ok () w9 := hput0
            have hs9 := map_same hMd hg9
            have hB9 : B ≤ w6.drew.heap.size := by have := (HT6).out.z; have := hbd9.size; omega
            have HP9 := Lib.hid (((HT6).out.last hB9 hbd9).put hB9 hbm hg9 hM9)
            have hg9n := hs9 34 _ _ _ (hg6)
            have HO9 := Lib.hid (((HO6).out.below hbd9).same (hs9 135))
            have hkq9 := hs9 137 _ _ _ hkq
            have hkeep := And.intro m5 (And.intro (block_cell hkq 0) (And.intro (block_cell hkq 1) (And.intro (block_cell hkq 2) (block_cell hkq 3))))
            obtain ⟨out9, hc9⟩ := HP9.out.c
            have hkeep9 := And.intro (block_cell hc9.q 5) (And.intro (block_cell hkq9 0) (And.intro (block_cell hkq9 1) (And.intro (block_cell hkq9 2) (block_cell hkq9 3))))
            clear hput0 hM9 hg9 hMd hc9 hs9
            go_region_held3 (fun w' => w'.cell? ⟨bc, 5, none⟩ = some (.map (some bm)) ∧ w'.cell? ⟨w4.heap.size, 0, none⟩ = some (.string f.name) ∧ w'.cell? ⟨w4.heap.size, 1, none⟩ = some (.int .i64 p.v.ty) ∧ w'.cell? ⟨w4.heap.size, 2, none⟩ = some (.int .i64 p.v.n) ∧ w'.cell? ⟨w4.heap.size, 3, none⟩ = some (.string p.v.s))
              (first
                | exact hkeep
                | exact hkeep9
                | go_keep)
              (fail)
            all_goals
              go_wp2_with fail
              go_roundw
              case rel => exact ⟨k + 1, by omega, by go_num, by
                unfold Hid
                rw [HS.out]
                unfold keyStep
                rw [HKY2.out]
                have h := HP9.out
                simp only [hin, if_false] at h ⊢
                simpa using h, hg9n, HO9.out⟩
              case measure => simp [intOf]; omega
    · obtain rfl : k = fl.length := by omega
      rw [List.take_length] at HT
      obtain ⟨outr, hcr⟩ := HT.out.c
      have m1 := block_cell hcr.q 1
      have hkl9 : (keysF n fl S).1.length ≤ 1000 := Nat.le_trans (keysF_len n _ S) (by omega)
      clear hlt hk y0 y2 hcr HO HOK
      go_wp2_with fail
      go_loopw [88] (fun i wq => ∃ k : Nat, k ≤ s.bonds.length ∧ i = .int .i64 k ∧ Hid (Told2 B bm w wq bc (.slice Ak s.kinds.length ck) (.slice Ab s.bonds.length cb) (.slice An g.nodes.length cn) (.slice At g.ties.length ct) (fs ++ aloneF s n ++ (keysF n fl S).1 ++ (s.bonds.take k).flatMap (bondF s g n)) (keysF n fl S).2) ∧
        wq.heap[w.heap.size]? = some (.cells #[.int .i64 n.id, .string n.kind, .slice Au n.props.length cu] 34 (0, 0))) (fun i _ => s.bonds.length - (intOf i).toNat)
      case atStart => exact ⟨0, Nat.zero_le _, rfl, by unfold Hid; simpa using HT.out, hg⟩
      case round =>
        clear HT hg m1
        obtain ⟨k, hk, rfl, HT, hg⟩ := hrel
        by_cases hlt : k < s.bonds.length
        · obtain ⟨d, hd⟩ : ∃ d, s.bonds[k]? = some d := ⟨_, List.getElem?_eq_getElem hlt⟩
          have hlt' : (k : Int) < (s.bonds.length : Int) := by omega
          have hWq : Below W1.heap.size W1 wr := by have h := HT.out.b; rw [HBW.out] at h; exact hW.trans h
          obtain ⟨gb, o, rfl, hokd, q0, q1, q2, q3, q4⟩ := bnd_at (HS.out.below hWq).2 hd
          have ha1 : Below wr.heap.size wr (wr.alloc (.cells #[.string d.name, .string d.src, .string d.dst, .int .i64 d.mn, .int .i64 d.mx] 109)) := (Below.refl _ _).alloc (Nat.le_refl _) _
          have hbk := heap_alloc_new wr (.cells #[.string d.name, .string d.src, .string d.dst, .int .i64 d.mn, .int .i64 d.mx] 109)
          have hBq : B ≤ wr.heap.size := by have := HT.out.z; omega
          have HST : Hid ((s.bonds.take (k + 1)).flatMap (bondF s g n) = (s.bonds.take k).flatMap (bondF s g n) ++ bondF s g n d) := by unfold Hid; rw [take_snocF hd, List.flatMap_append]; simp
          have hfl9 : ((s.bonds.take k).flatMap (bondF s g n)).length ≤ 24 := by
            have h1 := flat_le (l := s.bonds.take k) (f := bondF s g n) (c := 2) (fun b _ => bondF_len s g n b)
            have h2 : (s.bonds.take k).length ≤ k := by rw [List.length_take]; omega
            omega
          have HBF : Hid (bondF s g n d = if isKinB s.kinds n.kind d.src = true then (if manyF g n d < d.mn then [⟨7, n.id, d.name⟩] else []) ++ (if 0 ≤ d.mx ∧ d.mx < manyF g n d then [⟨8, n.id, d.name⟩] else []) else []) := rfl
          have hWa := hWq.trans (ha1.mono hWq.size)
          have HT1 := Lib.hid (HT.out.last hBq ha1)
          have hg1 := (ha1.block _ (Array.getElem?_eq_some_iff.1 hg).1).trans hg
          have hBa : B ≤ (wr.alloc (.cells #[.string d.name, .string d.src, .string d.dst, .int .i64 d.mn, .int .i64 d.mx] 109)).heap.size := by simp; omega
          have HKI : Hid (∀ W, Below W1.heap.size W1 W → Calls Tryz.prog 72 #[.slice Ak s.kinds.length ck, .string n.kind, .string d.src] W fun e w' => e = .returned (.bool (isKinB s.kinds n.kind d.src)) ∧ Below W.heap.size W w') := fun W h => isKin_any s.kinds n.kind d.src _ W (HS.out.below h).1 hkd (by have := hok.l; omega) hok.o
          have HEN : Hid (∀ W, Below W1.heap.size W1 W → Calls Tryz.prog 45 #[.agg #[.slice An g.nodes.length cn, .slice At g.ties.length ct], .int .i64 n.id, .string d.name, .bool false] W fun e w' => ∃ u, e = .returned u ∧ Own w' W.heap.size 3 1 u (endsS g n.id d.name false).length ((endsS g n.id d.name false).map (Value.int .i64)) ∧ (∀ x ∈ endsS g n.id d.name false, I64 x) ∧ Below W.heap.size W w') := fun W h => ends_any g n.id d.name false _ _ W (HG.out.below h) htl
          have HML : Hid (manyF g n d = ((endsS g n.id d.name false).length : Int) ∧ (endsS g n.id d.name false).length ≤ 1000) := ⟨rfl, by
            unfold endsS
            rw [sortI_len]
            exact Nat.le_trans (endsL_len _ _ _ _) htl⟩
          have HOKD : Hid (Sm d.name) := hokd.1
          clear hd hokd HT hg hWq
          go_upto_region 16 with fail
          generalize wr.alloc (.cells #[.string d.name, .string d.src, .string d.dst, .int .i64 d.mn, .int .i64 d.mx] 109) = Wa at *
          obtain ⟨outa, hca⟩ := HT1.out.c
          have m0 := block_cell hca.q 0
          have n1 := block_cell hg1 1
          have b1 := block_cell hbk 1
          have HBK := Lib.hid hbk
          have HGK := Lib.hid hg1
          clear hca q0 q1 q2 q3 q4 hbk hg1
          generalize isKinB s.kinds n.kind d.src = ik at *
          go_wp2_with fail
          refine wp_mid_k 9 _ rfl rfl (by kernel_rfl) (by kernel_rfl) ?_
          simp only [List.take_succ_cons, List.take_zero, List.drop_succ_cons, List.drop_zero]
          repeat (go_big_quiet_step (fail))
          refine wpQuiet_nil ?_
          intro _ hw'
          obtain ⟨nq, hw''⟩ := hw'
          subst hw''
          intro K hK
          have hk1 := HKI.out (Wa.drewN nq) (hWa.trans (below_drewN (Below.refl _ _) nq))
          go_wp2_with fail
          refine hk1.mono ?_
          clear hk1 HKI
          rintro e w3 ⟨rfl, hb3⟩
          have hb13 := (below_drewN (Below.refl Wa.heap.size Wa) nq).trans hb3
          refine hK _ _ ?_
          repeat (go_big_quiet_step (fail))
          refine wpQuiet_nil ?_
          intro _ hw'
          obtain ⟨nq2, hw''⟩ := hw'
          subst hw''
          clear hK
          have hbW := below_drewN hb13 nq2
          generalize w3.drewN nq2 = w4 at *
          have hB4 : B ≤ w4.heap.size := Nat.le_trans hBa hbW.size
          have HT4 := Lib.hid (HT1.out.last hBa hbW)
          have hg4 := (hbW.block _ (Array.getElem?_eq_some_iff.1 HGK.out).1).trans HGK.out
          have hbk4 := (hbW.block _ (Array.getElem?_eq_some_iff.1 HBK.out).1).trans HBK.out
          have hW4 := hWa.trans (hbW.mono hWa.size)
          clear hb3 hb13 hbW HT1 HGK HBK m0 n1 b1 hBa hWa
          cases ik with
          | false =>
            have HN : Hid (bondF s g n d = []) := by unfold Hid; rw [HBF.out]; rfl
            clear hbk4 HEN
            go_wp2_with fail
            go_roundw
            case rel => exact ⟨k + 1, by omega, by go_num, by unfold Hid; rw [HST.out, HN.out, List.append_nil]; exact HT4.out, hg4⟩
            case measure => simp [intOf]; omega
          | true =>
            have HBF2 : Hid (bondF s g n d = (if manyF g n d < d.mn then [⟨7, n.id, d.name⟩] else []) ++ (if 0 ≤ d.mx ∧ d.mx < manyF g n d then [⟨8, n.id, d.name⟩] else [])) := by unfold Hid; rw [HBF.out]; rfl
            rw [HML.out.1] at HBF2
            have hmm := HML.out.2
            obtain ⟨outa, hca⟩ := HT4.out.c
            have m2 := block_cell hca.q 2
            have m3 := block_cell hca.q 3
            have n0 := block_cell hg4 0
            have b0 := block_cell hbk4 0
            have HBK := Lib.hid hbk4
            have HGK := Lib.hid hg4
            clear hca hbk4 hg4 HBF HML
            go_wp2_with fail
            refine wp_mid_k 8 _ rfl rfl (by kernel_rfl) (by kernel_rfl) ?_
            simp only [List.take_succ_cons, List.take_zero, List.drop_succ_cons, List.drop_zero]
            repeat (go_big_quiet_step (fail))
            refine wpQuiet_nil ?_
            intro _ hw'
            obtain ⟨nq, hw''⟩ := hw'
            subst hw''
            intro K hK
            have hk1 := HEN.out (w4.drewN nq) (hW4.trans (below_drewN (Below.refl _ _) nq))
            clear HEN
            go_wp2_with fail
            refine hk1.mono ?_
            clear hk1
            rintro e w5 ⟨u5, rfl, ho5, _, hb5⟩
            obtain ⟨A5, c5, rfl, _, _⟩ := ho5.form
            have hb15 := (below_drewN (Below.refl w4.heap.size w4) nq).trans hb5
            clear ho5 hb5
            refine hK _ _ ?_
            repeat (go_big_quiet_step (fail))
            refine wpQuiet_nil ?_
            intro _ hw'
            obtain ⟨nq2, hw''⟩ := hw'
            subst hw''
            clear hK
            have hbW := below_drewN hb15 nq2
            generalize w5.drewN nq2 = w6 at *
            have hB6 : B ≤ w6.heap.size := Nat.le_trans hB4 hbW.size
            have HT6 := Lib.hid (HT4.out.last hB4 hbW)
            have hg6 := (hbW.block _ (Array.getElem?_eq_some_iff.1 HGK.out).1).trans HGK.out
            have hbk6 := (hbW.block _ (Array.getElem?_eq_some_iff.1 HBK.out).1).trans HBK.out
            clear hb15 hbW HT4 HGK HBK m2 m3 n0 b0 hW4 hB4
            generalize (endsS g n.id d.name false).length = mm at *
            have hmm' : (mm : Int) ≤ 1000 := by omega
            have b3 := block_cell hbk6 3
            by_cases h7 : (mm : Int) < d.mn
            · have HB7 : Hid (bondF s g n d = [⟨7, n.id, d.name⟩] ++ (if 0 ≤ d.mx ∧ d.mx < (mm : Int) then [⟨8, n.id, d.name⟩] else [])) := by unfold Hid; rw [HBF2.out, if_pos h7]
              clear HBF2
              -- w6: the world; HT6: what has been told; hg6: the node's box; hbk6: the bond's box; 7: which fault; hB6: the bound; w7: the world then
              obtain ⟨outx, hcx⟩ := (HT6).out.c
              have htell := tell_any B bc _ _ _ _ _ outx _ ⟨7, n.id, d.name⟩ w6 hB6 hcx ⟨⟨by show (-9223372036854775808 : Int) ≤ 7; omega, by show (7 : Int) ≤ 9223372036854775807; omega⟩, hid, HOKD.out⟩ (by simp only [List.length_append, List.length_cons, List.length_nil]; omega)
              have HGN := Lib.hid (hg6)
              have HBN := Lib.hid (hbk6)
              have n0 := block_cell (hg6) 0
              have b0 := block_cell (hbk6) 0
              clear hcx hg6 hbk6
              go_wp2_with fail
              refine htell.mono ?_
              clear htell n0 b0
              rintro e w7 ⟨rfl, ht⟩
              have HT7 := Lib.hid (HT6.out.tell ht)
              have hB7 : B ≤ w7.heap.size := Nat.le_trans hB6 ht.z
              have hg7 := ht.s 34 (by decide) (by decide) _ _ _ HGN.out
              have hbk7 := ht.s 109 (by decide) (by decide) _ _ _ HBN.out
              clear ht HT6 HGN HBN b3 h7
              -- w7: the world; HT7: what has been told; hg7: the node's box; hbk7: the bond's box; hB7: the bound; w8: the world then; HB7: the bond's faults
              have b4 := block_cell (hbk7) 4
              by_cases h8 : 0 ≤ d.mx
              · by_cases h9 : d.mx < (mm : Int)
                · have HN : Hid (bondF s g n d = _ ++ [⟨8, n.id, d.name⟩]) := (HB7).out.trans (by rw [if_pos ⟨h8, h9⟩])
                  clear HB7
                  -- w7: the world; HT7: what has been told; hg7: the node's box; hbk7: the bond's box; 8: which fault; hB7: the bound; w8: the world then
                  obtain ⟨outx, hcx⟩ := (HT7).out.c
                  have htell := tell_any B bc _ _ _ _ _ outx _ ⟨8, n.id, d.name⟩ w7 hB7 hcx ⟨⟨by show (-9223372036854775808 : Int) ≤ 8; omega, by show (8 : Int) ≤ 9223372036854775807; omega⟩, hid, HOKD.out⟩ (by simp only [List.length_append, List.length_cons, List.length_nil]; omega)
                  have HGN := Lib.hid (hg7)
                  have HBN := Lib.hid (hbk7)
                  have n0 := block_cell (hg7) 0
                  have b0 := block_cell (hbk7) 0
                  clear hcx hg7 hbk7
                  go_wp2_with fail
                  refine htell.mono ?_
                  clear htell n0 b0
                  rintro e w8 ⟨rfl, ht⟩
                  have HT8 := Lib.hid ((HT7).out.tell ht)
                  have hg8 := ht.s 34 (by decide) (by decide) _ _ _ HGN.out
                  clear ht HT7 HGN HBN b4 h8 h9
                  go_wp2_with fail
                  go_roundw
                  case rel => exact ⟨k + 1, by omega, by go_num, by unfold Hid; rw [HST.out, HN.out]; simpa [List.append_assoc] using HT8.out, hg8⟩
                  case measure => simp [intOf]; omega
                · have h9' : (mm : Int) ≤ d.mx := by omega
                  have HN : Hid (bondF s g n d = _ ++ []) := (HB7).out.trans (by rw [if_neg (fun h => h9 h.2)])
                  clear HB7 h9
                  go_wp2_with fail
                  go_roundw
                  case rel => exact ⟨k + 1, by omega, by go_num, by unfold Hid; rw [HST.out, HN.out]; simpa [List.append_assoc] using (HT7).out, hg7⟩
                  case measure => simp [intOf]; omega
              · have h8' : d.mx < 0 := by omega
                have HN : Hid (bondF s g n d = _ ++ []) := (HB7).out.trans (by rw [if_neg (fun h => h8 h.1)])
                clear HB7 h8
                go_wp2_with fail
                go_roundw
                case rel => exact ⟨k + 1, by omega, by go_num, by unfold Hid; rw [HST.out, HN.out]; simpa [List.append_assoc] using (HT7).out, hg7⟩
                case measure => simp [intOf]; omega
            · have h7' : d.mn ≤ (mm : Int) := by omega
              have HB7 : Hid (bondF s g n d = [] ++ (if 0 ≤ d.mx ∧ d.mx < (mm : Int) then [⟨8, n.id, d.name⟩] else [])) := by unfold Hid; rw [HBF2.out, if_neg h7]
              clear HBF2 h7
              -- w6: the world; HT6: what has been told; hg6: the node's box; hbk6: the bond's box; hB6: the bound; w8: the world then; HB7: the bond's faults
              have b4 := block_cell (hbk6) 4
              by_cases h8 : 0 ≤ d.mx
              · by_cases h9 : d.mx < (mm : Int)
                · have HN : Hid (bondF s g n d = _ ++ [⟨8, n.id, d.name⟩]) := (HB7).out.trans (by rw [if_pos ⟨h8, h9⟩])
                  clear HB7
                  -- w6: the world; HT6: what has been told; hg6: the node's box; hbk6: the bond's box; 8: which fault; hB6: the bound; w8: the world then
                  obtain ⟨outx, hcx⟩ := (HT6).out.c
                  have htell := tell_any B bc _ _ _ _ _ outx _ ⟨8, n.id, d.name⟩ w6 hB6 hcx ⟨⟨by show (-9223372036854775808 : Int) ≤ 8; omega, by show (8 : Int) ≤ 9223372036854775807; omega⟩, hid, HOKD.out⟩ (by simp only [List.length_append, List.length_cons, List.length_nil]; omega)
                  have HGN := Lib.hid (hg6)
                  have HBN := Lib.hid (hbk6)
                  have n0 := block_cell (hg6) 0
                  have b0 := block_cell (hbk6) 0
                  clear hcx hg6 hbk6
                  go_wp2_with fail
                  refine htell.mono ?_
                  clear htell n0 b0
                  rintro e w8 ⟨rfl, ht⟩
                  have HT8 := Lib.hid ((HT6).out.tell ht)
                  have hg8 := ht.s 34 (by decide) (by decide) _ _ _ HGN.out
                  clear ht HT6 HGN HBN b4 h8 h9
                  go_wp2_with fail
                  go_roundw
                  case rel => exact ⟨k + 1, by omega, by go_num, by unfold Hid; rw [HST.out, HN.out]; simpa [List.append_assoc] using HT8.out, hg8⟩
                  case measure => simp [intOf]; omega
                · have h9' : (mm : Int) ≤ d.mx := by omega
                  have HN : Hid (bondF s g n d = _ ++ []) := (HB7).out.trans (by rw [if_neg (fun h => h9 h.2)])
                  clear HB7 h9
                  go_wp2_with fail
                  go_roundw
                  case rel => exact ⟨k + 1, by omega, by go_num, by unfold Hid; rw [HST.out, HN.out]; simpa [List.append_assoc] using (HT6).out, hg6⟩
                  case measure => simp [intOf]; omega
              · have h8' : d.mx < 0 := by omega
                have HN : Hid (bondF s g n d = _ ++ []) := (HB7).out.trans (by rw [if_neg (fun h => h8 h.1)])
                clear HB7 h8
                go_wp2_with fail
                go_roundw
                case rel => exact ⟨k + 1, by omega, by go_num, by unfold Hid; rw [HST.out, HN.out]; simpa [List.append_assoc] using (HT6).out, hg6⟩
                case measure => simp [intOf]; omega
        · obtain rfl : k = s.bonds.length := by omega
          rw [List.take_length] at HT
          clear hlt hk
          go_wp2_with fail
          go_end0
          exact ⟨rfl, by rw [HA.out]; simpa [List.append_assoc] using HT.out⟩
end Go.Proofs.YtkegnmclhkpbkaaGreat
