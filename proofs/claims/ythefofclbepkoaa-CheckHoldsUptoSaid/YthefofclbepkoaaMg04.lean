/- Parts: Same, Chk0, Qr, KinA, Mi. -/
import Derived.Test.YthefofclbepkoaaMg03
import Derived.Test.YthefofclbepkoaaMg02
import Derived.Sort.BigQuietIn
import Derived.Test.YthefofclbepkoaaMg01
import Derived.Maps.OwnIn
import Derived.Maps.Views
import Derived.StringKeys
import Derived.Test.YthefofclbepkoaaRows
/- Plain: blocks of one element type stay as they are where only blocks of other types are written. No condition. -/
namespace Go.Proofs.Ythefofclbepkoaa
open Go Go.RowKit

/-- All blocks of cells of type T are as they were. -/
def Same (T : TypeId) (w w' : World) : Prop := ∀ (k : Nat) c fr, w.heap[k]? = some (.cells c T fr) → w'.heap[k]? = some (.cells c T fr)
theorem Same.refl (T : TypeId) (w : World) : Same T w w := fun _ _ _ h => h
theorem Same.trans {T : TypeId} {a b c : World} (h : Same T a b) (k : Same T b c) : Same T a c := fun i x fr hx => k i x fr (h i x fr hx)
theorem Same.below {T : TypeId} {w w' : World} (hb : Below w.heap.size w w') : Same T w w' := fun k _ _ h => (hb.block k (Array.getElem?_eq_some_iff.1 h).1).trans h
theorem Same.alloc {T : TypeId} (w : World) (o : Obj) : Same T w (w.alloc o) := .below ((Below.refl _ _).alloc (Nat.le_refl _) _)
theorem Same.drewN {T : TypeId} (w : World) (n : Nat) : Same T w (w.drewN n) := fun _ _ _ h => h
theorem Same.drew {T : TypeId} (w : World) : Same T w w.drew := fun _ _ _ h => h
theorem Same.grown {T e : TypeId} {w w' : World} {B sz n : Nat} {v : Value} {xs : List Value} (ho : Own w B e sz v n xs) (hne : e ≠ T) (hg : w.grownBy w' v.ownBlock) : Same T w w' := fun k c fr h => by
  have hlt := (Array.getElem?_eq_some_iff.1 h).1
  refine (hg.block k hlt fun e' => ?_).trans h
  rcases ho.2 with ⟨rfl, _⟩ | ⟨g, o, cap, cur, rfl, _, hg2, _⟩
  · simp [Value.ownBlock] at e'
  · simp [Value.ownBlock] at e'
    subst e'
    rw [h] at hg2
    injection hg2 with hg2
    injection hg2 with _ h2 _
    exact hne h2.symm
theorem Same.setCell {T e : TypeId} {w : World} {p : Addr} {c : Array Value} {fr : Nat × Nat} (hp : w.heap[p.block]? = some (.cells c e fr)) (hne : e ≠ T) (u : Value) : Same T w (w.setCell p u) := fun k c' fr' h => by
  refine (Below.heap_setCell w p u k (fun e' => ?_)).trans h
  subst e'
  rw [h] at hp
  injection hp with hp
  injection hp with _ h2 _
  exact hne h2.symm
theorem Own.same {w w' : World} {B : Nat} {e : TypeId} {sz : Nat} {v : Value} {n : Nat} {xs : List Value} (h : Own w B e sz v n xs) (hs : Same e w w') : Own w' B e sz v n xs := by
  refine ⟨h.1, ?_⟩
  rcases h.2 with hn | ⟨g, o, cap, cur, rfl, hb, hg, rest⟩
  · exact .inl hn
  · exact .inr ⟨g, o, cap, cur, rfl, hb, hs g cur _ hg, rest⟩

/-- Nodes of which each one's record is the call's own. -/
def OwnNods (w : World) (B : Nat) : List Nod → List Value → Prop
  | [], xs => xs = []
  | d :: l, xs => ∃ u ys, xs = [.int .i64 d.id, .string d.kind, u] ++ ys ∧ I64 d.id ∧ Sm d.kind ∧ (∀ p ∈ d.props, p.ok) ∧ Own w B 26 4 u d.props.length (d.props.flatMap Prp.enc) ∧ OwnNods w B l ys
theorem OwnNods.same {w w' : World} {B : Nat} (hs : Same 26 w w') : ∀ {l : List Nod} {xs : List Value}, OwnNods w B l xs → OwnNods w' B l xs
  | [], _, h => h
  | _ :: _, _, h => by
    obtain ⟨u, ys, rfl, h1, h2, h3, h4, h5⟩ := h
    exact ⟨u, ys, rfl, h1, h2, h3, h4.same hs, h5.same hs⟩
theorem OwnNods.snoc {w : World} {B : Nat} {d : Nod} {u : Value} (h1 : I64 d.id) (h2 : Sm d.kind) (h3 : ∀ p ∈ d.props, p.ok) (h4 : Own w B 26 4 u d.props.length (d.props.flatMap Prp.enc)) :
    ∀ {l : List Nod} {xs : List Value}, OwnNods w B l xs → OwnNods w B (l ++ [d]) (xs ++ [.int .i64 d.id, .string d.kind, u])
  | [], xs, h => by rw [show xs = [] from h]; exact ⟨u, [], by simp, h1, h2, h3, h4, rfl⟩
  | e :: l, xs, h => by
    obtain ⟨v, ys, rfl, k1, k2, k3, k4, k5⟩ := h
    exact ⟨v, ys ++ [.int .i64 d.id, .string d.kind, u], by simp, k1, k2, k3, k4, k5.snoc h1 h2 h3 h4⟩
theorem OwnNods.row {w : World} {B : Nat} : ∀ {l : List Nod} {xs : List Value}, OwnNods w B l xs → Row nodL w l xs
  | [], _, h => h
  | _ :: _, _, h => by
    obtain ⟨u, ys, rfl, h1, h2, h3, h4, h5⟩ := h
    exact ⟨_, ys, rfl, ⟨u, rfl, h1, h2, h4.prps h3⟩, h5.row⟩
theorem Own.nods {w : World} {B B' : Nat} {e : TypeId} {v : Value} {l : List Nod} {xs : List Value} (h : Own w B e 3 v l.length xs) (hn : OwnNods w B' l xs) : Sl nodL w v l := Own.row (L := nodL) h hn.row
theorem own_of_block {w : World} {b B : Nat} {e : TypeId} {sz n : Nat} {cs : List Value} (h : w.heap[b]? = some (.cells cs.toArray e (0, 0))) (hB : B ≤ b) (hl : cs.length = n * sz) (hm : n ≤ maxLen) : Own w B e sz (.slice (some ⟨b, 0, none⟩) n n) n cs :=
  ⟨hl, .inr ⟨b, 0, n, cs.toArray, rfl, hB, h, Nat.le_refl _, hm, by simp [hl], by rw [List.drop_zero, ← hl]; exact List.take_length⟩⟩
theorem Own.ne_block {w : World} {B : Nat} {e e' : TypeId} {sz n k : Nat} {v : Value} {xs : List Value} {c : Array Value} {fr : Nat × Nat} (ho : Own w B e sz v n xs) (h : w.heap[k]? = some (.cells c e' fr)) (hne : e' ≠ e) : some k ≠ v.ownBlock := by
  intro e1
  rcases ho.2 with ⟨rfl, _⟩ | ⟨g, o, cap, cur, rfl, _, hg2, _⟩
  · simp [Value.ownBlock] at e1
  · simp [Value.ownBlock] at e1
    subst e1
    rw [h] at hg2
    injection hg2 with hg2
    injection hg2 with _ h2 _
    exact hne h2
theorem grown_block {w w' : World} {k : Nat} {row : Option Nat} {o : Obj} (hg : w.grownBy w' row) (h : w.heap[k]? = some o) (hne : some k ≠ row) : w'.heap[k]? = some o :=
  (hg.block k (Array.getElem?_eq_some_iff.1 h).1 hne).trans h
theorem block_cell {w : World} {k : Nat} {c : Array Value} {T : TypeId} {fr : Nat × Nat} (h : w.heap[k]? = some (.cells c T fr)) (i : Nat) : w.cell? ⟨k, i, none⟩ = c[i]? := by
  simp [World.cell?, h]
theorem block_free {w : World} {k : Nat} {c : Array Value} {T : TypeId} (h : w.heap[k]? = some (.cells c T (0, 0))) (i : Nat) : w.frozen? ⟨k, i, none⟩ = false := by
  simp [World.frozen?, h]
theorem setCell_block {w : World} {k : Nat} {c : Array Value} {T : TypeId} {fr : Nat × Nat} (h : w.heap[k]? = some (.cells c T fr)) (i : Nat) (u : Value) : (w.setCell ⟨k, i, none⟩ u).heap[k]? = some (.cells (c.setIfInBounds i u) T fr) := by
  simp [World.setCell, Array.getElem?_modify, h]
end Go.Proofs.Ythefofclbepkoaa

/- Contract: a checker tells a fault. No condition. -/
namespace Go.Proofs.Ythefofclbepkoaa
open Go Go.RowKit

structure Flt where
  what : Int
  node : Int
  name : ByteArray
def Flt.enc (d : Flt) : List Value := [.int .i64 d.what, .int .i64 d.node, .string d.name]
def Flt.ok (d : Flt) : Prop := I64 d.what ∧ I64 d.node ∧ Sm d.name
theorem Flt.enc_len (d : Flt) : d.enc.length = 3 := rfl
def fltL : Lay Flt := flatL 3 Flt.ok Flt.enc Flt.enc_len
theorem flt_info : (Try.prog.info? 72).map (fun i => (i.zero, i.size, i.bytes)) = some (some (.agg #[.int .i64 0, .int .i64 0, .string .empty]), 3, 32) := by kernel_rfl
theorem Own.is_cells {w : World} {B : Nat} {e : TypeId} {sz n k : Nat} {v : Value} {xs : List Value} (ho : Own w B e sz v n xs) (h : v.ownBlock = some k) : ∃ c fr, w.heap[k]? = some (.cells c e fr) := by
  rcases ho.2 with ⟨rfl, _⟩ | ⟨g, o, cap, cur, rfl, _, hg2, _⟩
  · simp [Value.ownBlock] at h
  · simp [Value.ownBlock] at h
    subst h
    exact ⟨_, _, hg2⟩
/-- A checker: what it asks of, its map, and what it has told. -/
structure Ck (B : Nat) (w : World) (bc : Nat) (vk vb vn vt mv out : Value) (fs : List Flt) : Prop where
  q : w.heap[bc]? = some (.cells #[vk, vb, vn, vt, out, mv] 113 (0, 0))
  l : B ≤ bc
  o : Own w B 72 3 out fs.length (fs.flatMap Flt.enc)
  k : ∀ x ∈ fs, x.ok
theorem Ck.below {B : Nat} {w w' : World} {bc : Nat} {vk vb vn vt mv out : Value} {fs : List Flt} (h : Ck B w bc vk vb vn vt mv out fs) (hb : Below w.heap.size w w') : Ck B w' bc vk vb vn vt mv out fs :=
  ⟨(hb.block _ (Array.getElem?_eq_some_iff.1 h.q).1).trans h.q, h.l, h.o.below hb, h.k⟩
/-- What has come of a checker that told more: all else stays. -/
structure Told1 (B : Nat) (w w' : World) (bc : Nat) (vk vb vn vt mv : Value) (fs : List Flt) : Prop where
  c : ∃ out, Ck B w' bc vk vb vn vt mv out fs
  b : Below B w w'
  s : ∀ T, 72 ≠ T → 113 ≠ T → Same T w w'
  m : ∀ (k : Nat) m c, w.heap[k]? = some (.map m c) → w'.heap[k]? = some (.map m c)
  z : w.heap.size ≤ w'.heap.size
theorem Told1.trans {B : Nat} {w w1 w2 : World} {bc : Nat} {vk vb vn vt mv : Value} {fs gs : List Flt} (h : Told1 B w w1 bc vk vb vn vt mv fs) (k : Told1 B w1 w2 bc vk vb vn vt mv gs) : Told1 B w w2 bc vk vb vn vt mv gs :=
  ⟨k.c, h.b.trans k.b, fun T h1 h2 => (h.s T h1 h2).trans (k.s T h1 h2), fun i m c hm => k.m i m c (h.m i m c hm), Nat.le_trans h.z k.z⟩
theorem Told1.first {B : Nat} {w w1 w2 : World} {bc : Nat} {vk vb vn vt mv : Value} {gs : List Flt} (hb : Below w.heap.size w w1) (hB : B ≤ w.heap.size) (k : Told1 B w1 w2 bc vk vb vn vt mv gs) : Told1 B w w2 bc vk vb vn vt mv gs :=
  ⟨k.c, (hb.mono hB).trans k.b, fun T h1 h2 => (Same.below hb).trans (k.s T h1 h2), fun i m c hm => k.m i m c ((hb.block _ (Array.getElem?_eq_some_iff.1 hm).1).trans hm), Nat.le_trans hb.size k.z⟩
theorem Told1.last {B : Nat} {w w1 w2 : World} {bc : Nat} {vk vb vn vt mv : Value} {gs : List Flt} (k : Told1 B w w1 bc vk vb vn vt mv gs) (hB : B ≤ w1.heap.size) (hb : Below w1.heap.size w1 w2) : Told1 B w w2 bc vk vb vn vt mv gs := by
  obtain ⟨out, hc⟩ := k.c
  exact ⟨⟨out, hc.below hb⟩, k.b.trans (hb.mono hB), fun T h1 h2 => (k.s T h1 h2).trans (Same.below hb), fun i m c hm => (hb.block _ (Array.getElem?_eq_some_iff.1 (k.m i m c hm)).1).trans (k.m i m c hm), Nat.le_trans k.z hb.size⟩
set_option maxRecDepth 100000 in
set_option maxHeartbeats 4000000 in
theorem tell_any (B bc : Nat) (vk vb vn vt mv out : Value) (fs : List Flt) (d : Flt) (w : World) (hB : B ≤ w.heap.size) (hC : Ck B w bc vk vb vn vt mv out fs) (hd : d.ok) (hl : fs.length ≤ 100000) :
    Calls Try.prog 75 #[.pointer (some ⟨bc, 0, none⟩), .int .i64 d.what, .int .i64 d.node, .string d.name] w fun e w' => e = .returned (.tuple #[]) ∧ Told1 B w w' bc vk vb vn vt mv (fs ++ [d]) := by
  obtain ⟨A, c, rfl, _, _⟩ := hC.o.form
  obtain ⟨i0, ei, ez, ez1, ez2⟩ := info_parts flt_info
  have x4 := block_cell hC.q 4
  have f4 := block_free hC.q 4
  have HC := Lib.hid hC
  have HD := Lib.hid hd
  have HN : Hid (∀ j u, d.enc[j]? = some u → (w.alloc (.cells #[.int .i64 d.what, .int .i64 d.node, .string d.name] 72)).cell? ⟨w.heap.size, j, none⟩ = some u) := fun j u hj => by
    rw [World.cell?_alloc_at _ _ _ _ rfl]; simpa [Flt.enc] using hj
  clear hC hd
  have HO : Hid (Own (w.alloc (.cells #[.int .i64 d.what, .int .i64 d.node, .string d.name] 72)) B 72 3 (.slice A fs.length c) fs.length (fs.flatMap Flt.enc)) := HC.out.o.alloc _
  have HSB : Hid (B ≤ (w.alloc (.cells #[.int .i64 d.what, .int .i64 d.node, .string d.name] 72)).heap.size) := by unfold Hid; simp; omega
  have HQ : Hid ((w.alloc (.cells #[.int .i64 d.what, .int .i64 d.node, .string d.name] 72)).heap[bc]? = some (.cells #[vk, vb, vn, vt, .slice A fs.length c, mv] 113 (0, 0))) := by
    unfold Hid; rw [Below.heap_alloc _ _ _ (Array.getElem?_eq_some_iff.1 HC.out.q).1]; exact HC.out.q
  go_enter Try.func75, Try.ntmps75
  go_wp2_with (at_builtin; refine wpList_append_q _ rfl (.tmp 12) (.tmp 17) _ rfl B 72 i0 (.agg #[.int .i64 0, .int .i64 0, .string .empty]) 3 32 Try.underlying62 ei ez ez1 ez2 rfl (by decide) (.slice A fs.length c) fs.length (fs.flatMap Flt.enc) rfl HO.out (some ⟨w.heap.size, 0, none⟩) 1 1 d.enc rfl rfl (fun _ => ⟨_, rfl, fun j u hj => by rw [addr_add, Nat.zero_add]; exact HN.out j u hj⟩) (fun u hu => by simp [Flt.enc] at hu; rcases hu with rfl | rfl | rfl <;> rfl) (by unfold maxLen; omega) (by omega) HSB.out ?_; intro v7 w7 hown7 hg7 hat7; obtain ⟨A7, c7, rfl, _, _⟩ := hown7.form; have hq7 := grown_block hg7 HQ.out (HO.out.ne_block HQ.out (by decide)); have e0 := block_cell hq7 4; have e1 := block_free hq7 4)
  go_end0
  refine ⟨rfl, ⟨⟨.slice A7 (fs.length + 1) c7, ?_, HC.out.l, ?_, fun x hx => ?_⟩, ?_, fun T h1 h2 => ?_, fun k m cl hm => ?_, ?_⟩⟩
  · exact setCell_block hq7 4 _
  · have h := hown7.same (Same.setCell (T := 72) (p := ⟨bc, 4, none⟩) hq7 (by decide) (.slice A7 (fs.length + 1) c7))
    rw [flat_snoc] at h
    simpa using h
  · rcases List.mem_append.1 hx with h | h
    · exact HC.out.k x h
    · simp at h; subst h; exact HD.out
  · exact (((Below.refl B w).alloc hB _).grown hg7 HSB.out (fun k e => (HO.out.lt k e).1)).setCell (p := ⟨bc, 4, none⟩) HC.out.l _
  · exact ((Same.alloc w _).trans (Same.grown HO.out h1 hg7)).trans (Same.setCell (p := ⟨bc, 4, none⟩) hq7 h2 _)
  · have hk := (Array.getElem?_eq_some_iff.1 hm).1
    have h1 : (w.alloc (.cells #[.int .i64 d.what, .int .i64 d.node, .string d.name] 72)).heap[k]? = some (.map m cl) := by rw [Below.heap_alloc _ _ _ hk]; exact hm
    have h2 := grown_block hg7 h1 (fun e => by
      obtain ⟨c, fr, h⟩ := HO.out.is_cells e.symm
      rw [h1] at h; cases h)
    rw [Below.heap_setCell _ _ _ _ (by
      intro e
      have e : k = bc := e
      rw [e, hq7] at h2; cases h2)]
    exact h2
  · have h1 := hg7.size
    simp [World.setCell] at h1 ⊢
    omega
end Go.Proofs.Ythefofclbepkoaa

/- A region that draws its order, inside a round of a range over a function: one walk in the order of the text serves every order where the operations only read. Conditions: the Bools on the region. -/
namespace Go.Proofs.Ythefofclbepkoaa
open Go Go.RowKit Go.BigFrame

def noDefB (ops : Array Oper) : Bool := ops.toList.all fun o => match o.op with | .defer _ => false | _ => true
theorem noDef_spec {ops : Array Oper} (h : noDefB ops = true) {i : Nat} {o : Oper} (ho : ops[i]? = some o) : ∀ c, o.op ≠ .defer c := by
  intro c hc
  have hm : o ∈ ops.toList := by rw [Array.mem_toList_iff]; exact Array.mem_of_getElem? ho
  have := List.all_eq_true.1 h o hm
  simp [hc] at this
section
variable {F : Fence} {n : Nat} {P : Program} {ops : Array Oper} {md : Region.Mode} {C : World → Prop}
theorem semAt_any {o : Oper} (ro : Option Nat) (ρ : Operand → Value) (h : ∀ c, o.op ≠ .defer c) : o.semAt ro ρ = execOp ρ o := by
  cases ro with
  | none => rfl
  | some l => exact Oper.semAt_some l ρ o h
theorem wpIn_of_quietR {o : Oper} {a : Act} {K : Act → Prop} {K' : Act → World → Prop} {Q' : Exit → Act → World → Prop} {w : World} (hnd : ∀ c, o.op ≠ .defer c) (hw : C w) (h : ∀ a w', C w' → K a → K' a w')
    (ha : o.askedIn F P a C) (hh : o.quietIn F n P a C K) : o.wpIn F n P a w K' Q' := by
  obtain ⟨v, h1, h2⟩ := hh
  have h3 := h1 w hw
  unfold Oper.quietAtIn at h3
  unfold Oper.wpIn
  refine ⟨ha w hw, ?_⟩
  rw [semAt_any _ _ hnd]
  generalize (execOp a.eval o).run P w = r at *
  cases r with
  | ok x w' =>
    cases x <;> simp only [Oper.quietUponIn] at h3 <;> simp only [Oper.uponIn]
    case value u =>
      obtain ⟨e1, e2⟩ := h3
      rw [e1, e2]
      exact h _ _ hw h2
    case skip =>
      obtain ⟨e1, e2⟩ := h3
      rw [e1, ← e2]
      exact h _ _ hw h2
    case enter f args =>
      obtain ⟨e1, hd, hc⟩ := h3
      rw [e1]
      exact ⟨hd, hc.mono fun e w'' ⟨he, hw''⟩ => by subst he; exact h _ _ hw'' h2⟩
  | halt x w' => simp only [Oper.quietUponIn] at h3
theorem wpOpIn_of_quietR {i : Nat} {a : Act} {K : Act → Prop} {K' : Act → World → Prop} {Q' : Exit → Act → World → Prop} {w : World} (hnd : noDefB ops = true) (hC : C w) (h : ∀ a w', C w' → K a → K' a w')
    (hh : qOpIn F n P ops C i K a) : wpOpIn F n P ops Q' i K' a w := by
  unfold qOpIn at hh
  unfold wpOpIn
  split
  · rename_i ho; simp only [ho] at hh; exact h _ _ hC hh
  · rename_i o ho
    simp only [ho] at hh
    obtain ⟨ha, hh⟩ := hh
    split
    · rename_i hw; simp only [hw, if_true] at hh; exact wpIn_of_quietR (noDef_spec hnd ho) hC h ha hh
    · rename_i hw; simp only [hw] at hh; exact ⟨ha w hC, h _ _ hC hh⟩
theorem wpAnyIn_of_quietR {Q : Act → Prop} {Q' : Exit → Act → World → Prop} (hnd : noDefB ops = true) (hQ : ∀ a w, C w → Q a → Q' .normal a w) : ∀ (fuel : Nat) (listed : Array Bool) (a : Act) (w : World), C w →
    wpAnyQIn F n P md ops C Q fuel listed a → wpAnyIn F n P md ops Q' fuel listed a w
  | 0, _, _, _, hw, h => ⟨h.1, hQ _ _ hw h.2⟩
  | fuel + 1, _, _, _, hw, h => ⟨fun h0 => hQ _ _ hw (h.1 h0), fun i hi => wpOpIn_of_quietR hnd hw (fun a' w' hw' => wpAnyIn_of_quietR hnd hQ fuel _ a' w' hw') (h.2 i hi)⟩
theorem wpIn_quiet_round {id : Nat} {Q : Exit → Act → World → Prop} {a : Act} {w : World} {l : List Oper} (hnd : noDefB l.toArray = true) (hm : P.follows .mixedOrders = true) (hB : Region.lexB .any l.toArray = true)
    (h : wpQuietIn F n P l.toArray (fun w' => ∃ n, w' = w.drewN n) (fun a' => ∀ w', (∃ n, w' = w.drewN n) → Q .normal a' w') l a) : (Code.region id l.toArray true).wpIn F n P Q a w := by
  simp only [Region.lexB, Bool.and_eq_true] at hB
  refine wpIn_region_any hm (wpAnyIn_of_quietR (C := fun w' => ∃ n, w' = w.drewN n) (Q := fun a' => ∀ w', (∃ n, w' = w.drewN n) → Q .normal a' w') hnd (fun _ w' hw' h => h w' hw') _ _ _ _ ⟨1, rfl⟩ ?_)
  have := wpAnyQIn_lex (F := F) (n := n) (C := fun w' => ∃ n, w' = w.drewN n) (md := .any) hB.1 l 0 (Array.replicate l.toArray.size false) a (by simp) (by simpa using hB.2) h
  simpa using this
end
end Go.Proofs.Ythefofclbepkoaa

/- Plain: a map from texts to bools that the call made, as a set; the kin of a kind; an append inside a fence. -/
namespace Go.Proofs.Ythefofclbepkoaa
open Go Go.RowKit
open Go.Maps (Keyed)

/-! ### Kin -/
/-- What comes of a kind is looked at once more: whoever it comes of. -/
def kinStep (S : ByteArray → Bool) (k : Knd) : ByteArray → Bool := if S k.name = true then fun s => S s || k.ofs.any (fun o => decide (o = s)) else S
def kinSet (l : List Knd) (name : ByteArray) : ByteArray → Bool := l.foldr (fun k S => kinStep S k) (fun s => decide (name = s))
def kinL (l : List Knd) (name : ByteArray) : List ByteArray := (l.filter fun k => kinSet l name k.name).map (·.name)

/-! ### A set of texts in memory -/
theorem plainElem_bool_inv {H : Type} {P : Program} {e : TypeId} (he : P.underlying e = some .bool) {v : Value} {z : DataW H × List MemPlace} (h : plainElem P e v = some z) : ∃ b, v = .bool b ∧ z = (.lit (.bool b), []) := by
  unfold plainElem at h
  rw [he] at h
  cases v <;> simp at h
  exact ⟨_, rfl, h.symm⟩
theorem lit_ne {s t : ByteArray} (h : ¬ s = t) : (Lit.string s.data.toList) ≠ (Lit.string t.data.toList) := by
  intro e
  injection e with e
  have := Array.toList_inj.1 e
  exact h (by cases s; cases t; simp at this; rw [this])

def SetIs (D : DataW Unit) (S : ByteArray → Bool) : Prop := Maps.IsMap D ∧ ∀ s : ByteArray, s.size ≤ maxLen → D.atKey (.string s.data.toList) (.lit (.bool false)) = .lit (.bool (S s))
theorem SetIs.empty : SetIs (.map []) (fun _ => false) := ⟨⟨[], rfl⟩, fun _ _ => rfl⟩
theorem SetIs.put {D : DataW Unit} {S : ByteArray → Bool} (h : SetIs D S) {x : ByteArray} (hk : WideAt.IsKeyLit (.string x.data.toList)) : SetIs (D.put (.string x.data.toList) (.lit (.bool true))) (fun s => S s || decide (x = s)) := by
  refine ⟨h.1.put _ _, fun s hs => ?_⟩
  by_cases e : x = s
  · subst e
    rw [Maps.atKey_put_same h.1 hk]
    simp
  · rw [Maps.atKey_put_other (lit_ne (fun e' => e e'.symm)), h.2 s hs]
    simp [e]

/-- Block b is a map of at most n entries: the set S. -/
def MapS (w : World) (b n : Nat) (S : ByteArray → Bool) : Prop :=
  ∃ D : DataW Unit, w.ownsMap Try.prog 9 (plainElem Try.prog 4) b n D ∧ SetIs D S
theorem zeroBool (w : World) : (zeroValue 4).run Try.prog w = .ok (.bool false) w := by kernel_rfl
theorem setLaw : Keyed Try.prog 9 := Maps.string_keyed Try.underlying9
theorem MapS.made (w : World) : MapS (w.alloc (.map #[] 0)) w.heap.size 0 (fun _ => false) := ⟨_, World.ownsMap_made w _ _ _, SetIs.empty⟩
theorem MapS.mono {w : World} {b n n' : Nat} {S : ByteArray → Bool} (h : MapS w b n S) (hn : n ≤ n') : MapS w b n' S := by
  obtain ⟨D, h1, h2⟩ := h
  exact ⟨D, h1.mono hn, h2⟩
theorem MapS.kept {w w' : World} {b n : Nat} {S : ByteArray → Bool} {row : Option Nat} (h : MapS w b n S) (hg : w.grownBy w' row) (hne : some b ≠ row) : MapS w' b n S := by
  obtain ⟨D, h1, h2⟩ := h
  exact ⟨D, h1.kept hg hne, h2⟩
theorem MapS.alloc {w : World} {b n : Nat} {S : ByteArray → Bool} (h : MapS w b n S) (o : Obj) : MapS (w.alloc o) b n S := h.kept (World.grownBy_alloc w o none) (by simp)
theorem MapS.lt {w : World} {b n : Nat} {S : ByteArray → Bool} (h : MapS w b n S) : b < w.heap.size := by
  obtain ⟨D, h1, _⟩ := h
  exact h1.lt
set_option maxRecDepth 100000 in
theorem MapS.look {w : World} {b n : Nat} {S : ByteArray → Bool} (h : MapS w b n S) {s : ByteArray} (hs : s.size ≤ maxLen) :
    (Instr.lookup 200 (.map (some b)) (.string s) false).run Try.prog w = .ok (.bool (S s)) w := by
  obtain ⟨D, h1, h2⟩ := h
  obtain ⟨v, ps, hrun, hv⟩ := h1.lookup setLaw Try.underlying200 (zeroBool w) (plainElem_bool Try.underlying4 false) (WideMaps.keyOf_string_mk Try.underlying9 hs)
  obtain ⟨x, rfl, hx⟩ := plainElem_bool_inv Try.underlying4 hv
  rw [h2.2 s hs] at hx
  injection hx with hx _
  injection hx with hx
  injection hx with hx
  rw [hrun, hx]
set_option maxRecDepth 100000 in
theorem MapS.put {w : World} {b n : Nat} {S : ByteArray → Bool} (h : MapS w b n S) (hn : n < maxLen) {s : ByteArray} (hs : s.size ≤ maxLen) :
    ∃ w', (Instr.mapUpdate 200 (.map (some b)) (.string s) (.bool true)).run Try.prog w = .ok () w' ∧ MapS w' b (n + 1) (fun t => S t || decide (s = t)) ∧ w.grownBy w' (some b) := by
  obtain ⟨D, h1, h2⟩ := h
  have hkey := WideMaps.keyOf_string_mk Try.underlying9 hs
  obtain ⟨w', hrun, hm, hg⟩ := h1.update setLaw Try.underlying200 hn hkey (plainElem_bool (H := Unit) Try.underlying4 true)
  exact ⟨w', hrun, ⟨_, hm, h2.put trivial⟩, hg⟩
end Go.Proofs.Ythefofclbepkoaa

/- Plain: a map from texts to ints that the call made, as a function. No condition. -/
namespace Go.Proofs.Ythefofclbepkoaa
open Go Go.RowKit
open Go.Maps (Keyed)

theorem plainElem_int_inv {H : Type} {P : Program} {e : TypeId} (he : P.underlying e = some (.int .i64)) {v : Value} {z : DataW H × List MemPlace} (h : plainElem P e v = some z) : ∃ n, v = .int .i64 n ∧ z = (.lit (.int .i64 n), []) := by
  unfold plainElem at h
  rw [he] at h
  cases v <;> simp at h
  obtain ⟨⟨rfl, _⟩, rfl⟩ := h
  exact ⟨_, rfl, rfl⟩
def FunIs (D : DataW Unit) (F : ByteArray → Int) : Prop := Maps.IsMap D ∧ ∀ s : ByteArray, s.size ≤ maxLen → D.atKey (.string s.data.toList) (.lit (.int .i64 0)) = .lit (.int .i64 (F s))
theorem FunIs.empty : FunIs (.map []) (fun _ => 0) := ⟨⟨[], rfl⟩, fun _ _ => rfl⟩
theorem FunIs.put {D : DataW Unit} {F : ByteArray → Int} (h : FunIs D F) {x : ByteArray} (n : Int) (hk : WideAt.IsKeyLit (.string x.data.toList)) : FunIs (D.put (.string x.data.toList) (.lit (.int .i64 n))) (fun s => if x = s then n else F s) := by
  refine ⟨h.1.put _ _, fun s hs => ?_⟩
  by_cases e : x = s
  · subst e
    rw [Maps.atKey_put_same h.1 hk]
    simp
  · rw [Maps.atKey_put_other (lit_ne (fun e' => e e'.symm)), h.2 s hs]
    simp [e]
/-- Block b is a map of at most n entries: the function F. -/
def MapI (w : World) (b n : Nat) (F : ByteArray → Int) : Prop :=
  ∃ D : DataW Unit, w.ownsMap Try.prog 9 (plainElem Try.prog 3) b n D ∧ FunIs D F
theorem zeroInt (w : World) : (zeroValue 3).run Try.prog w = .ok (.int .i64 0) w := by kernel_rfl
theorem MapI.made (w : World) : MapI (w.alloc (.map #[] 0)) w.heap.size 0 (fun _ => 0) := ⟨_, World.ownsMap_made w _ _ _, FunIs.empty⟩
theorem MapI.kept {w w' : World} {b n : Nat} {F : ByteArray → Int} {row : Option Nat} (h : MapI w b n F) (hg : w.grownBy w' row) (hne : some b ≠ row) : MapI w' b n F := by
  obtain ⟨D, h1, h2⟩ := h
  exact ⟨D, h1.kept hg hne, h2⟩
theorem MapI.lt {w : World} {b n : Nat} {F : ByteArray → Int} (h : MapI w b n F) : b < w.heap.size := by
  obtain ⟨D, h1, _⟩ := h
  exact h1.lt
set_option maxRecDepth 100000 in
theorem MapI.look {w : World} {b n : Nat} {F : ByteArray → Int} (h : MapI w b n F) {s : ByteArray} (hs : s.size ≤ maxLen) :
    (Instr.lookup 186 (.map (some b)) (.string s) false).run Try.prog w = .ok (.int .i64 (F s)) w := by
  obtain ⟨D, h1, h2⟩ := h
  obtain ⟨v, ps, hrun, hv⟩ := h1.lookup setLaw Try.underlying186 (zeroInt w) (plainElem_int Try.underlying3 (by decide)) (WideMaps.keyOf_string_mk Try.underlying9 hs)
  obtain ⟨x, rfl, hx⟩ := plainElem_int_inv Try.underlying3 hv
  rw [h2.2 s hs] at hx
  injection hx with hx _
  injection hx with hx
  injection hx with _ hx
  rw [hrun, hx]
set_option maxRecDepth 100000 in
theorem MapI.put {w : World} {b n : Nat} {F : ByteArray → Int} (h : MapI w b n F) (hn : n < maxLen) {s : ByteArray} (hs : s.size ≤ maxLen) {v : Int} (hv : I64 v) :
    ∃ w', (Instr.mapUpdate 186 (.map (some b)) (.string s) (.int .i64 v)).run Try.prog w = .ok () w' ∧ MapI w' b (n + 1) (fun t => if s = t then v else F t) ∧ w.grownBy w' (some b) := by
  obtain ⟨D, h1, h2⟩ := h
  have hkey := WideMaps.keyOf_string_mk Try.underlying9 hs
  have hwf : (Lit.int .i64 v).wf = true := by
    obtain ⟨h1, h2⟩ := hv
    have e1 : IntKind.min .i64 = -9223372036854775808 := by decide
    have e2 : IntKind.max .i64 = 9223372036854775807 := by decide
    simp only [Lit.wf, Bool.and_eq_true, decide_eq_true_eq, e1, e2]
    exact ⟨h1, h2⟩
  obtain ⟨w', hrun, hm, hg⟩ := h1.update setLaw Try.underlying186 hn hkey (plainElem_int (H := Unit) Try.underlying3 hwf)
  exact ⟨w', hrun, ⟨_, hm, h2.put v trivial⟩, hg⟩
end Go.Proofs.Ythefofclbepkoaa
