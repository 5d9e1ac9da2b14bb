/- Parts: Qr, KinA, KinB, KinC, ValA, KinD, Eqs, Qt. -/
import Derived.Sort.BigQuietIn
import Derived.Test.YtfjnkidblalckaaMg01
import Derived.Maps.OwnIn
import Derived.Maps.Views
import Derived.StringKeys
import Derived.Test.YtfjnkidblalckaaRows
import Derived.RangeFuncNested
import Derived.RangeFuncBound
import Derived.RangeFuncCalls
import Derived.RangeFuncLeaves
import Derived.RangeFuncBox
import Derived.RangeFuncWrites
import Derived.Shelf.Abstract
import Derived.OwnWalkIn
import Derived.TacticsInMore
import Derived.LoopNIn
import Derived.LoopIn
import Derived.Deep.LoopGhost
import Derived.Shelf.GgClosure.Gives
import Derived.Lib.ConvBytes
import Derived.Laws.StructEq
import Derived.StillTail
import Derived.BigQuiet
import Derived.Lib.QuietBelow
/- A region that draws its order, inside a round of a range over a function: one walk in the order of the text serves every order where the operations only read. Conditions: the Bools on the region. -/
namespace Go.Proofs.Ytfjnkidblalckaa
open Go Go.RowKit Go.BigFrame

def noDefB (ops : Array Oper) : Bool := ops.toList.all fun o => match o.op with | .defer _ => false | _ => true
theorem noDef_spec {ops : Array Oper} (h : noDefB ops = true) {i : Nat} {o : Oper} (ho : ops[i]? = some o) : ∀ c, o.op ≠ .defer c := by
  intro c hc
  have hm : o ∈ ops.toList := by rw [Array.mem_toList_iff]; exact Array.mem_of_getElem? ho
  have := List.all_eq_true.1 h o hm
  simp [hc] at this
section
variable {F : Fence} {n : Nat} {P : Program} {ops : Array Oper} {md : Region.Mode} {C : World → Prop}
theorem semAt_any {o : Oper} (ro : Option Nat) (ρ : Operand → Value) (h : ∀ c, o.op ≠ .defer c) : o.semAt ro ρ = execOp ρ o := by
  cases ro with
  | none => rfl
  | some l => exact Oper.semAt_some l ρ o h
theorem wpIn_of_quietR {o : Oper} {a : Act} {K : Act → Prop} {K' : Act → World → Prop} {Q' : Exit → Act → World → Prop} {w : World} (hnd : ∀ c, o.op ≠ .defer c) (hw : C w) (h : ∀ a w', C w' → K a → K' a w')
    (ha : o.askedIn F P a C) (hh : o.quietIn F n P a C K) : o.wpIn F n P a w K' Q' := by
  obtain ⟨v, h1, h2⟩ := hh
  have h3 := h1 w hw
  unfold Oper.quietAtIn at h3
  unfold Oper.wpIn
  refine ⟨ha w hw, ?_⟩
  rw [semAt_any _ _ hnd]
  generalize (execOp a.eval o).run P w = r at *
  cases r with
  | ok x w' =>
    cases x <;> simp only [Oper.quietUponIn] at h3 <;> simp only [Oper.uponIn]
    case value u =>
      obtain ⟨e1, e2⟩ := h3
      rw [e1, e2]
      exact h _ _ hw h2
    case skip =>
      obtain ⟨e1, e2⟩ := h3
      rw [e1, ← e2]
      exact h _ _ hw h2
    case enter f args =>
      obtain ⟨e1, hd, hc⟩ := h3
      rw [e1]
      exact ⟨hd, hc.mono fun e w'' ⟨he, hw''⟩ => by subst he; exact h _ _ hw'' h2⟩
  | halt x w' => simp only [Oper.quietUponIn] at h3
theorem wpOpIn_of_quietR {i : Nat} {a : Act} {K : Act → Prop} {K' : Act → World → Prop} {Q' : Exit → Act → World → Prop} {w : World} (hnd : noDefB ops = true) (hC : C w) (h : ∀ a w', C w' → K a → K' a w')
    (hh : qOpIn F n P ops C i K a) : wpOpIn F n P ops Q' i K' a w := by
  unfold qOpIn at hh
  unfold wpOpIn
  split
  · rename_i ho; simp only [ho] at hh; exact h _ _ hC hh
  · rename_i o ho
    simp only [ho] at hh
    obtain ⟨ha, hh⟩ := hh
    split
    · rename_i hw; simp only [hw, if_true] at hh; exact wpIn_of_quietR (noDef_spec hnd ho) hC h ha hh
    · rename_i hw; simp only [hw] at hh; exact ⟨ha w hC, h _ _ hC hh⟩
theorem wpAnyIn_of_quietR {Q : Act → Prop} {Q' : Exit → Act → World → Prop} (hnd : noDefB ops = true) (hQ : ∀ a w, C w → Q a → Q' .normal a w) : ∀ (fuel : Nat) (listed : Array Bool) (a : Act) (w : World), C w →
    wpAnyQIn F n P md ops C Q fuel listed a → wpAnyIn F n P md ops Q' fuel listed a w
  | 0, _, _, _, hw, h => ⟨h.1, hQ _ _ hw h.2⟩
  | fuel + 1, _, _, _, hw, h => ⟨fun h0 => hQ _ _ hw (h.1 h0), fun i hi => wpOpIn_of_quietR hnd hw (fun a' w' hw' => wpAnyIn_of_quietR hnd hQ fuel _ a' w' hw') (h.2 i hi)⟩
theorem wpIn_quiet_round {id : Nat} {Q : Exit → Act → World → Prop} {a : Act} {w : World} {l : List Oper} (hnd : noDefB l.toArray = true) (hm : P.follows .mixedOrders = true) (hB : Region.lexB .any l.toArray = true)
    (h : wpQuietIn F n P l.toArray (fun w' => ∃ n, w' = w.drewN n) (fun a' => ∀ w', (∃ n, w' = w.drewN n) → Q .normal a' w') l a) : (Code.region id l.toArray true).wpIn F n P Q a w := by
  simp only [Region.lexB, Bool.and_eq_true] at hB
  refine wpIn_region_any hm (wpAnyIn_of_quietR (C := fun w' => ∃ n, w' = w.drewN n) (Q := fun a' => ∀ w', (∃ n, w' = w.drewN n) → Q .normal a' w') hnd (fun _ w' hw' h => h w' hw') _ _ _ _ ⟨1, rfl⟩ ?_)
  have := wpAnyQIn_lex (F := F) (n := n) (C := fun w' => ∃ n, w' = w.drewN n) (md := .any) hB.1 l 0 (Array.replicate l.toArray.size false) a (by simp) (by simpa using hB.2) h
  simpa using this
end
end Go.Proofs.Ytfjnkidblalckaa

/- Plain: a map from texts to bools that the call made, as a set; the kin of a kind; an append inside a fence. -/
namespace Go.Proofs.Ytfjnkidblalckaa
open Go Go.RowKit
open Go.Maps (Keyed)

/-! ### Kin -/
/-- What comes of a kind is looked at once more: whoever it comes of. -/
def kinStep (S : ByteArray → Bool) (k : Knd) : ByteArray → Bool := if S k.name = true then fun s => S s || k.ofs.any (fun o => decide (o = s)) else S
def kinSet (l : List Knd) (name : ByteArray) : ByteArray → Bool := l.foldr (fun k S => kinStep S k) (fun s => decide (name = s))
def kinL (l : List Knd) (name : ByteArray) : List ByteArray := (l.filter fun k => kinSet l name k.name).map (·.name)

/-! ### A set of texts in memory -/
theorem plainElem_bool_inv {H : Type} {P : Program} {e : TypeId} (he : P.underlying e = some .bool) {v : Value} {z : DataW H × List MemPlace} (h : plainElem P e v = some z) : ∃ b, v = .bool b ∧ z = (.lit (.bool b), []) := by
  unfold plainElem at h
  rw [he] at h
  cases v <;> simp at h
  exact ⟨_, rfl, h.symm⟩
theorem lit_ne {s t : ByteArray} (h : ¬ s = t) : (Lit.string s.data.toList) ≠ (Lit.string t.data.toList) := by
  intro e
  injection e with e
  have := Array.toList_inj.1 e
  exact h (by cases s; cases t; simp at this; rw [this])

def SetIs (D : DataW Unit) (S : ByteArray → Bool) : Prop := Maps.IsMap D ∧ ∀ s : ByteArray, s.size ≤ maxLen → D.atKey (.string s.data.toList) (.lit (.bool false)) = .lit (.bool (S s))
theorem SetIs.empty : SetIs (.map []) (fun _ => false) := ⟨⟨[], rfl⟩, fun _ _ => rfl⟩
theorem SetIs.put {D : DataW Unit} {S : ByteArray → Bool} (h : SetIs D S) {x : ByteArray} (hk : WideAt.IsKeyLit (.string x.data.toList)) : SetIs (D.put (.string x.data.toList) (.lit (.bool true))) (fun s => S s || decide (x = s)) := by
  refine ⟨h.1.put _ _, fun s hs => ?_⟩
  by_cases e : x = s
  · subst e
    rw [Maps.atKey_put_same h.1 hk]
    simp
  · rw [Maps.atKey_put_other (lit_ne (fun e' => e e'.symm)), h.2 s hs]
    simp [e]

/-- Block b is a map of at most n entries: the set S. -/
def MapS (w : World) (b n : Nat) (S : ByteArray → Bool) : Prop :=
  ∃ D : DataW Unit, w.ownsMap Try.prog 9 (plainElem Try.prog 4) b n D ∧ SetIs D S
theorem zeroBool (w : World) : (zeroValue 4).run Try.prog w = .ok (.bool false) w := by kernel_rfl
theorem setLaw : Keyed Try.prog 9 := Maps.string_keyed Try.underlying9
theorem MapS.made (w : World) : MapS (w.alloc (.map #[] 0)) w.heap.size 0 (fun _ => false) := ⟨_, World.ownsMap_made w _ _ _, SetIs.empty⟩
theorem MapS.mono {w : World} {b n n' : Nat} {S : ByteArray → Bool} (h : MapS w b n S) (hn : n ≤ n') : MapS w b n' S := by
  obtain ⟨D, h1, h2⟩ := h
  exact ⟨D, h1.mono hn, h2⟩
theorem MapS.kept {w w' : World} {b n : Nat} {S : ByteArray → Bool} {row : Option Nat} (h : MapS w b n S) (hg : w.grownBy w' row) (hne : some b ≠ row) : MapS w' b n S := by
  obtain ⟨D, h1, h2⟩ := h
  exact ⟨D, h1.kept hg hne, h2⟩
theorem MapS.alloc {w : World} {b n : Nat} {S : ByteArray → Bool} (h : MapS w b n S) (o : Obj) : MapS (w.alloc o) b n S := h.kept (World.grownBy_alloc w o none) (by simp)
theorem MapS.lt {w : World} {b n : Nat} {S : ByteArray → Bool} (h : MapS w b n S) : b < w.heap.size := by
  obtain ⟨D, h1, _⟩ := h
  exact h1.lt
end Go.Proofs.Ytfjnkidblalckaa

/- Contract: slices.Backward over kinds: the last first, then the one ahead of it, .., for every loop body that keeps what lay. -/
namespace Go.Proofs.Ytfjnkidblalckaa
open Go Go.RowKit Go.Shelf

attribute [local go_sem] Oper.semAt_some

/-- A kind's value, in whatever later world. -/
structure KndAt (w : World) (b o : Nat) (l : List Knd) (f : Fin l.length → Value × Value) : Prop where
  at_ : ∀ i : Fin l.length, w.cell? ⟨b, o + i.1 * 3, none⟩ = some (.string (l[i.1]).name) ∧ w.cell? ⟨b, o + i.1 * 3 + 1, none⟩ = some (f i).1 ∧ w.cell? ⟨b, o + i.1 * 3 + 2, none⟩ = some (f i).2 ∧
    Sm (l[i.1]).name ∧ Sl strL w (f i).1 (l[i.1]).ofs ∧ Sl fldL w (f i).2 (l[i.1]).fields
theorem kndAt_of {w : World} {A : Option Addr} {n c : Nat} {l : List Knd} (h : Sl kndL w (.slice A n c) l) (h0 : 0 < l.length) : ∃ b o f, A = some ⟨b, o, none⟩ ∧ KndAt w b o l f := by
  obtain ⟨b, o, hA, hall⟩ := knd_all h h0
  have : ∀ i : Fin l.length, ∃ p : Value × Value, w.cell? ⟨b, o + i.1 * 3, none⟩ = some (.string (l[i.1]).name) ∧ w.cell? ⟨b, o + i.1 * 3 + 1, none⟩ = some p.1 ∧ w.cell? ⟨b, o + i.1 * 3 + 2, none⟩ = some p.2 ∧
      Sm (l[i.1]).name ∧ Sl strL w p.1 (l[i.1]).ofs ∧ Sl fldL w p.2 (l[i.1]).fields := fun i => by
    obtain ⟨u, x, h1, h2, h3, c0, c1, c2⟩ := hall i.1 _ (List.getElem?_eq_getElem i.2)
    exact ⟨(u, x), c0, c1, c2, h1, h2, h3⟩
  exact ⟨b, o, fun i => Classical.choose (this i), hA, ⟨fun i => Classical.choose_spec (this i)⟩⟩
theorem KndAt.below {w w' : World} {b o : Nat} {l : List Knd} {f : Fin l.length → Value × Value} (hb : Below w.heap.size w w') (h : KndAt w b o l f) : KndAt w' b o l f :=
  ⟨fun i => let ⟨c0, c1, c2, h1, h2, h3⟩ := h.at_ i; ⟨cell_below hb c0, cell_below hb c1, cell_below hb c2, h1, h2.below hb, h3.below hb⟩⟩
/-- What a round is handed. -/
def kndEnc (l : List Knd) (f : Fin l.length → Value × Value) (i : Fin l.length) : Array Value := #[.int .i64 (i.1 : Int), .agg #[.string (l[i.1]).name, (f i).1, (f i).2]]
def downL (n : Nat) : List (Fin n) := (List.finRange n).reverse
theorem downL_length (n : Nat) : (downL n).length = n := by simp [downL]
theorem downL_get (n m k : Nat) (h : m + 1 + k = n) : (downL n)[k]? = some ⟨m, by omega⟩ := by
  unfold downL
  rw [List.getElem?_reverse (by simp; omega)]
  simp only [List.length_finRange]
  rw [List.getElem?_eq_getElem (by simp; omega)]
  congr 1
  apply Fin.ext
  simp
  omega
theorem take_step {α : Type} {l : List α} {k : Nat} {x : α} (h : l[k]? = some x) : l.take (k + 1) = l.take k ++ [x] := by
  rw [List.take_add_one, h]; rfl

/-- What a round that goes on keeps: all that lay below n, and the iterator's own box. -/
def KeepsBox (n Bs : Nat) (W W' : World) : Prop := Below n W W' ∧ W'.cell? ⟨Bs, 0, none⟩ = W.cell? ⟨Bs, 0, none⟩
theorem keepsBox_t {n Bs : Nat} {X Y Z : World} (h : KeepsBox n Bs X Y) (k : KeepsBox n Bs Y Z) : KeepsBox n Bs X Z := ⟨h.1.trans k.1, k.2.trans h.2⟩
theorem keepsBox_b {n Bs : Nat} {w : World} (hn : n ≤ w.heap.size) (hB : Bs < w.heap.size) (W : World) (l : Nat) (o o' : Obj) (hl : w.heap.size ≤ l) (h : W.heap[l]? = some o) (h1 : o.isCells = false) (h2 : o.isWalk = false) : KeepsBox n Bs W (W.putObj l o') := by
  refine ⟨belowK_b hn W l o o' hl h h1 h2, ?_⟩
  have hb : Below (Bs + 1) W (W.putObj l o') := belowK_b (w := w) (by omega) W l o o' hl h h1 h2
  exact hb.cell (p := ⟨Bs, 0, none⟩) (by simp)

end Go.Proofs.Ytfjnkidblalckaa

/- Contract: kind.KinOf: who comes of whom. -/
namespace Go.Proofs.Ytfjnkidblalckaa
open Go Go.RowKit Go.Shelf

attribute [local go_sem] Oper.semAt_some

/-- The set behind some rounds. -/
def kinFold (l : List Knd) (name : ByteArray) (pre : List (Fin l.length)) : ByteArray → Bool := pre.foldl (fun S i => kinStep S l[i.1]) (fun s => decide (name = s))
theorem kinFold_snoc (l : List Knd) (name : ByteArray) (pre : List (Fin l.length)) (i : Fin l.length) : kinFold l name (pre ++ [i]) = kinStep (kinFold l name pre) l[i.1] := by simp [kinFold]
theorem kinFold_all (l : List Knd) (name : ByteArray) : kinFold l name (downL l.length) = kinSet l name := by
  unfold kinFold kinSet downL
  rw [List.foldl_reverse]
  have : ∀ (m : List Knd) (g : Fin m.length → Fin m.length), (List.finRange m.length).map (fun i : Fin m.length => m[i.1]) = m := fun m _ => by
    apply List.ext_getElem
    · simp
    · intro i h1 h2; simp
  have h2 := this l id
  conv => rhs; rw [← h2]
  rw [List.foldr_map]

theorem cell_grown {w w' : World} {row : Option Nat} (hg : w.grownBy w' row) {b o : Nat} {v : Value} (h : w.cell? ⟨b, o, none⟩ = some v) (hne : some b ≠ row) : w'.cell? ⟨b, o, none⟩ = some v := by
  have hlt := World.block_lt_of_cell? _ _ h
  have := hg.block b hlt hne
  unfold World.cell? at h ⊢
  dsimp only at h ⊢
  rw [this]; exact h

theorem grown_drewN (W : World) (n : Nat) (row : Option Nat) : W.grownBy (W.drewN n) row := ⟨rfl, rfl, rfl, Nat.le_refl _, fun _ _ _ => rfl⟩
/-- append onto an owned slice, inside a fence. -/
theorem wpListIn_append_q {F : Fence} {n0 : Nat} {P : Program} (w : World) {ops : Array Oper} {rest : List Oper} {o : Oper} {a : Act} {Q : Exit → Act → World → Prop} (hgd : o.guard = none) (s x : Operand) (t : TypeId)
    (ho : o.op = .call { callee := .builtin .append, args := #[s, x], argTypes := #[t, t] })
    (B : Nat) (e : TypeId) (i : TypeInfo) (z : Value) (size bytes : Nat) (ht : P.underlying t = some (.slice e)) (hi : P.info? e = some i) (hz : i.zero = some z)
    (hsize : i.size = size) (hby : i.bytes = bytes) (hzs : z.cells.size = size) (hsz : 0 < size)
    (v : Value) (n : Nat) (xs : List Value) (hs : a.eval s = v) (hown : Own w B e size v n xs)
    (A : Option Addr) (m c : Nat) (news : List Value) (hx : a.eval x = .slice A m c) (hl : news.length = m * size) (hA : 0 < m → ∃ a, A = some a ∧ ∀ j u, news[j]? = some u → w.cell? (a.add j) = some u) (h1 : ∀ u ∈ news, u.oneCell' = true)
    (h63 : n + m ≤ maxLen) (hbytes : (n + m) * bytes ≤ 140737488355328) (hbase : B ≤ w.heap.size)
    (h : ∀ v' w', Own w' B e size v' (n + m) (xs ++ news) → w.grownBy w' v.ownBlock → (v'.ownBlock = v.ownBlock ∨ v'.ownBlock = some w.heap.size) → wpListIn F n0 P ops Q rest (a.put o.dst v') w') : wpListIn F n0 P ops Q (o :: rest) a w := by
  refine wpListIn_plain hgd fun K hK' => ?_
  obtain ⟨v', w', hr, h2, h3, h4⟩ := run_append_q (P := P) w B t o.type e i z size bytes ht hi hz hsize hby hzs hsz v n xs hown A m c news hl hA h1 h63 hbytes hbase
  unfold Oper.wpIn
  refine ⟨?_, ?_⟩
  · simp [Oper.about, ho, resolve, Target.leads, Sem.run_pure]
  · rw [Oper.semAt_plain F _ _ (by rw [ho]; intro c hc'; cases hc')]
    simp [execOp, ho, resolve, invoke, builtin, hs, hx, hr, Result.andThen]
    exact hK' _ _ (h v' w' h2 h3 h4)
theorem Own.strs {w : World} {B : Nat} {e : TypeId} {v : Value} {l : List ByteArray} (hl : ∀ x ∈ l, Sm x) (h : Own w B e 1 v l.length (l.map Value.string)) : Sl strL w v l := by
  obtain ⟨A, c, rfl, h1, h2⟩ := h.form
  refine ⟨A, c, rfl, h1, h2, fun i d hi => ?_⟩
  obtain ⟨g, o, c', hv, _, _⟩ := h.addr (len_pos hi)
  injection hv with hA _ hc
  subst hA; subst hc
  refine ⟨g, o, _, rfl, ⟨rfl, hl d (List.mem_of_getElem? hi)⟩, fun j u hj => ?_⟩
  match j, hj with
  | 0, hj =>
    simp at hj
    subst hj
    have := h.cell rfl (j := i) (u := .string d) (by rw [List.getElem?_map, hi]; rfl)
    simpa [strL, flatL] using this
theorem MapS.of_block {w w' : World} {b n : Nat} {S : ByteArray → Bool} (h : MapS w b n S) (hb : w'.heap[b]? = w.heap[b]?) : MapS w' b n S := by
  obtain ⟨D, ⟨es, clock, h1, h2⟩, h3⟩ := h
  exact ⟨D, ⟨es, clock, hb.trans h1, h2⟩, h3⟩
theorem str_info : (Try.prog.info? 9).map (fun i => (i.zero, i.size, i.bytes)) = some (some (.string .empty), 1, 16) := by kernel_rfl

/-- What stands between two rounds. -/
structure KinI (p q : Nat) (sv : Value) (W : World) (N : Nat) (S : ByteArray → Bool) : Prop where
  c0 : W.cell? ⟨p, 0, none⟩ = some sv
  c1 : W.cell? ⟨q, 0, none⟩ = some (.map (some (p + 1)))
  c2 : W.cell? ⟨q + 1, 0, none⟩ = some sv
  m : MapS W (p + 1) N S
theorem KinI.drewN {p q N : Nat} {sv : Value} {W : World} {S : ByteArray → Bool} (h : KinI p q sv W N S) (n : Nat) : KinI p q sv (W.drewN n) N S := ⟨h.c0, h.c1, h.c2, h.m⟩
theorem KinI.keepsBox {p q N M : Nat} {sv : Value} {W W' : World} {S T : ByteArray → Bool} (h : KinI p q sv W N S) (k : KinI p q sv W' M T) (hb : Below p W W') : KeepsBox p (q + 1) W W' := ⟨hb, k.c2.trans h.c2.symm⟩

end Go.Proofs.Ytfjnkidblalckaa

/- Contracts: what value.Name, value.Check, record.prop and record.Check of the program answer, for every input that is not too long; plain functions on bytes beside them. -/
namespace Go.Proofs.Ytfjnkidblalckaa
open Go.RowKit

/-- The place of the first that meets p; -1: none does. -/
def idxI {D : Type} (p : D → Bool) (l : List D) : Int := match l.findIdx? p with | some i => i | none => -1
theorem idxI_hit {D : Type} {p : D → Bool} {l : List D} {k : Nat} {d : D} (h1 : ∀ j x, j < k → l[j]? = some x → p x = false) (h2 : l[k]? = some d) (h3 : p d = true) : idxI p l = k := by
  unfold idxI
  have : l.findIdx? p = some k := by
    rw [List.findIdx?_eq_some_iff_getElem]
    obtain ⟨hk, rfl⟩ := List.getElem?_eq_some_iff.1 h2
    exact ⟨hk, h3, fun j hj => by simp [h1 j _ hj (List.getElem?_eq_getElem (by omega))]⟩
  rw [this]
theorem idxI_miss {D : Type} {p : D → Bool} {l : List D} (h1 : ∀ j x, j < l.length → l[j]? = some x → p x = false) : idxI p l = -1 := by
  unfold idxI
  have : l.findIdx? p = none := by
    rw [List.findIdx?_eq_none_iff]
    intro x hx
    obtain ⟨j, hj, rfl⟩ := List.getElem_of_mem hx
    exact h1 j _ hj (List.getElem?_eq_getElem hj)
  rw [this]
theorem idxI_any {D : Type} (p : D → Bool) (l : List D) : decide ((0 : Int) ≤ idxI p l) = l.any p := by
  unfold idxI
  cases h : l.findIdx? p with
  | none =>
    rw [List.findIdx?_eq_none_iff] at h
    have : l.any p = false := by rw [List.any_eq_false]; intro x hx; simp [h x hx]
    rw [this]; rfl
  | some i =>
    obtain ⟨hi, hp, _⟩ := List.findIdx?_eq_some_iff_getElem.1 h
    have : l.any p = true := List.any_eq_true.2 ⟨_, List.getElem_mem hi, hp⟩
    rw [this]; simp
theorem miss_step {D : Type} {p : D → Bool} {l : List D} {k : Nat} {d : D} (h1 : ∀ j x, j < k → l[j]? = some x → p x = false) (h2 : l[k]? = some d) (h3 : p d = false) : ∀ j x, j < k + 1 → l[j]? = some x → p x = false := by
  intro j x hj hx
  by_cases e : j = k
  · subst e
    have := h2.symm.trans hx
    cases this
    exact h3
  · exact h1 j x (by omega) hx

/-- What is asked of a function value: on each element, in every later world, it answers p and leaves what there was. -/
def PredB {D : Type} (P : Program) (g : Nat) (caps : Array Value) (V : World → D → Value → Prop) (p : D → Bool) (w : World) : Prop :=
  ∀ x u wx, Below w.heap.size w wx → V wx x u → Calls P g (#[u] ++ caps) wx (fun e w' => e = .returned (.bool (p x)) ∧ Below wx.heap.size wx w')

set_option maxHeartbeats 400000 in
theorem idx_byte (g : Nat) (caps : Array Value) (eg : ∀ args w, (callFunc g args).run Try.prog w = .ok (.enter g args) w) (p : UInt8 → Bool) (l : List UInt8) (v : Value) (w : World) (hv : Sl byteL w v l)
    (hp : PredB Try.prog g caps (fun _ x u => u = .int .u8 x.toNat) p w) :
    Calls Try.prog 70 #[v, .func (.func g) #[] caps] w fun e w' => e = .returned (.int .i64 (idxI p l)) ∧ Below w.heap.size w w' := by
  obtain ⟨A, c, rfl, hlc, hcm⟩ := hv.form
  unfold maxLen at hcm
  go_enter Try.func70, Try.ntmps70
  go_wp2_with fail
  go_loopw [8] (fun i wr => ∃ k : Nat, k ≤ l.length ∧ i = .int .i64 k ∧ Below w.heap.size w wr ∧ Hid (∀ j x, j < k → l[j]? = some x → p x = false)) (fun i _ => l.length - (intOf i).toNat)
  case atStart => exact ⟨0, Nat.zero_le _, rfl, Below.refl _ _, fun j x hj => absurd hj (Nat.not_lt_zero _)⟩
  case round =>
    obtain ⟨k, hk, rfl, hb, HA⟩ := hrel
    by_cases hlt : k < l.length
    · obtain ⟨d, hd⟩ : ∃ d, l[k]? = some d := ⟨_, List.getElem?_eq_getElem hlt⟩
      obtain ⟨b, o, rfl, hcell⟩ := byte_at (hv.below hb) hd
      have HD : Hid (l[k]? = some d) := hd
      clear hd
      have hcall := hp d _ wr hb rfl
      clear hp hv
      cases hq : p d with
      | true =>
        rw [hq] at hcall
        have HQ : Hid (p d = true) := hq
        clear hq
        go_wp2_with (go_at_fn g; refine hcall.mono ?_; rintro e w' ⟨rfl, hb2⟩)
        go_ret
        exact ⟨ret_int (idxI_hit HA.out HD.out HQ.out).symm, hb.trans (hb2.mono hb.size)⟩
      | false =>
        rw [hq] at hcall
        have HQ : Hid (p d = false) := hq
        clear hq
        go_wp2_with (go_at_fn g; refine hcall.mono ?_; rintro e w' ⟨rfl, hb2⟩)
        go_roundw
        case rel => exact ⟨k + 1, by omega, by go_num, hb.trans (hb2.mono hb.size), miss_step HA.out HD.out HQ.out⟩
        case measure => simp [intOf]; omega
    · have hkl : k = l.length := by omega
      subst hkl
      go_wp2_with fail
      go_ret
      exact ⟨ret_int (idxI_miss HA.out).symm, hb⟩

theorem has_byte (g : Nat) (caps : Array Value) (eg : ∀ args w, (callFunc g args).run Try.prog w = .ok (.enter g args) w) (p : UInt8 → Bool) (l : List UInt8) (v : Value) (w : World) (hv : Sl byteL w v l)
    (hp : PredB Try.prog g caps (fun _ x u => u = .int .u8 x.toNat) p w) :
    Calls Try.prog 54 #[v, .func (.func g) #[] caps] w fun e w' => e = .returned (.bool (l.any p)) ∧ Below w.heap.size w w' := by
  have h1 := idx_byte g caps eg p l v w hv hp
  have h2 := idxI_any p l
  have H2 := Lib.hid h2
  clear h2 hv hp eg
  go_enter Try.func54, Try.ntmps54
  go_wp2_with (go_at_call 70; refine h1.mono ?_; rintro e w' ⟨rfl, hb⟩)
  go_ret
  exact ⟨ret_bool H2.out, hb⟩

/-- '[]byte(s)': a new row that reads as the text's bytes. -/
theorem bytes_sl (w : World) (s : ByteArray) (hs : Sm s) : Sl byteL (Lib.bytesWorld w 5 s) (.slice (some ⟨w.heap.size, 0, none⟩) s.size (grownCap w s.size 0 5)) s.data.toList ∧ Below w.heap.size w (Lib.bytesWorld w 5 s) := by
  have e : s.data.toList.length = s.size := by rw [Array.length_toList]; rfl
  refine ⟨⟨some ⟨w.heap.size, 0, none⟩, grownCap w s.size 0 5, by rw [e], by rw [e]; exact grownCap_ge _ _ _ _, ?_, ?_⟩, ⟨rfl, rfl, rfl, by rw [Lib.bytesWorld_size]; omega, fun k hk => Lib.bytesWorld_at_old w 5 s k hk⟩⟩
  · exact grownCap_le_maxLen _ _ _ _ (by unfold Sm at hs; unfold maxLen; omega)
  · intro i d hi
    refine ⟨_, _, _, rfl, ⟨rfl, trivial⟩, fun j u hj => ?_⟩
    have hlt : i < s.size := by rw [← e]; exact (List.getElem?_eq_some_iff.1 hi).1
    match j, hj with
    | 0, hj =>
      simp at hj
      subst hj
      have := Lib.bytesWorld_cell w 5 s i hlt
      simpa [byteL, flatL, List.getD, hi] using this

/-! ### value.Name -/
def nameC (c : UInt8) : Bool := decide ((c.toNat : Int) < 97) || decide (122 < (c.toNat : Int))
def nameE (s : ByteArray) : Int := if s.toList.isEmpty then 2 else if 8 < s.size then 2 else if s.data.toList.any nameC then 2 else 0
theorem name1 (c : UInt8) (w : World) :
    Calls Try.prog 55 #[.int .u8 c.toNat] w fun e w' => e = .returned (.bool (nameC c)) ∧ w = w' := by
  unfold nameC
  go_enter Try.func55, Try.ntmps55
  go_wp2
  all_goals go_ret
  all_goals exact ⟨rfl, rfl⟩
theorem name_any (s : ByteArray) (w : World) (hs : Sm s) :
    Calls Try.prog 35 #[.string s] w fun e w' => e = .returned (errV (nameE s)) ∧ Below w.heap.size w w' := by
  have hcv := fun wx => Lib.run_convert_string_bytes (P := Try.prog) wx 9 101 5 s Try.underlying9 Try.underlying101 Try.underlying5
  obtain ⟨hsl, hb⟩ := bytes_sl w s hs
  have hcall := has_byte 55 #[] (by intro args w; kernel_rfl) nameC s.data.toList _ _ hsl (fun x u wx _ hu => by subst hu; exact (name1 x wx).mono fun e w' ⟨h1, h2⟩ => ⟨h1, h2 ▸ Below.refl _ _⟩)
  have HF : Hid (nameE s = if s.toList.isEmpty then 2 else if 8 < s.size then 2 else if s.data.toList.any nameC then 2 else 0) := rfl
  clear hsl
  have hs' : s.size ≤ 1048576 := hs
  clear hs
  by_cases h0 : s.toList.isEmpty = true
  · have HE : Hid (errV (nameE s) = .iface 58 (.int .i64 2)) := by rw [HF.out, if_pos h0]; rfl
    clear hcall
    go_enter Try.func35, Try.ntmps35
    go_wp2_with fail
    go_ret
    exact ⟨by rw [HE.out]; rfl, Below.refl _ _⟩
  · have h0' : s.toList.isEmpty = false := by simpa using h0
    by_cases h8 : 8 < s.size
    · have HE : Hid (errV (nameE s) = .iface 58 (.int .i64 2)) := by rw [HF.out, if_neg h0, if_pos h8]; rfl
      have h8' : (8 : Int) < (s.size : Int) := by omega
      clear hcall h0
      go_enter Try.func35, Try.ntmps35
      go_wp2_with fail
      go_ret
      exact ⟨by rw [HE.out]; rfl, Below.refl _ _⟩
    · have h8' : decide ((8 : Int) < (s.size : Int)) = false := by simp; omega
      have h8'' : (s.size : Int) ≤ 8 := by omega
      clear h0
      cases hq : s.data.toList.any nameC with
      | true =>
        have HE : Hid (errV (nameE s) = .iface 58 (.int .i64 2)) := by rw [HF.out, h0', if_neg (by simp), if_neg h8, hq]; rfl
        rw [hq] at hcall
        clear hq
        go_enter Try.func35, Try.ntmps35
        go_wp2_with (go_at_call 54; refine hcall.mono ?_; rintro e w' ⟨rfl, hb2⟩)
        go_ret
        exact ⟨by rw [HE.out]; rfl, hb.trans (hb2.mono hb.size)⟩
      | false =>
        have HE : Hid (errV (nameE s) = .nilIface) := by rw [HF.out, h0', if_neg (by simp), if_neg h8, hq]; rfl
        rw [hq] at hcall
        clear hq
        go_enter Try.func35, Try.ntmps35
        go_wp2_with (go_at_call 54; refine hcall.mono ?_; rintro e w' ⟨rfl, hb2⟩)
        go_ret
        exact ⟨by rw [HE.out]; rfl, hb.trans (hb2.mono hb.size)⟩
end Go.Proofs.Ytfjnkidblalckaa

/- Contracts: slices.Index, slices.Contains over texts, kinref1.In, slices.IndexFunc over kinds, kind.Find. -/
namespace Go.Proofs.Ytfjnkidblalckaa
open Go.RowKit

theorem bytes_beq (a b : ByteArray) : (a.toList == b.toList) = decide (a = b) := by
  rw [Bool.eq_iff_iff, beq_iff_eq, decide_eq_true_eq]
  constructor
  · intro h
    rw [ByteArray.toList_eq, ByteArray.toList_eq] at h
    have := Array.toList_inj.1 h
    cases a; cases b; simp at this; rw [this]
  · intro h; rw [h]

/-! ### kind.Find -/
def kndV (_ : World) (d : Knd) (u : Value) : Prop := ∃ a b n c m e, u = .agg #[.string d.name, .slice a n c, .slice b m e]
/-- Where a kind of a name is. -/
def kFind (l : List Knd) (name : ByteArray) : Int := idxI (fun k => decide (k.name = name)) l
end Go.Proofs.Ytfjnkidblalckaa

/- Plain laws of the model: '==' and '!=' between the program's structs of flat cells. No condition. -/
namespace Go.Proofs.Ytfjnkidblalckaa
open Go Go.RowKit

theorem bytes_eq (a b : ByteArray) : (a.toList = b.toList) = (a = b) := by
  have := bytes_beq a b
  apply propext
  constructor
  · intro h; rw [h] at this; simpa using this.symm
  · intro h; rw [h]
end Go.Proofs.Ytfjnkidblalckaa

/- A region that draws its order: all operations but the last few only read (in whatever world of a class), the last few stand in one order: one walk in the order of the text serves every order. Conditions: the two Bools on the region. -/
namespace Go.Proofs.Ytfjnkidblalckaa
open Go Go.RowKit Go.Sort
section
variable {P : Program} {ops : Array Oper} {md : Region.Mode} {C : World → Prop}

def wpAnyLQ (P : Program) (md : Region.Mode) (ops : Array Oper) (C : World → Prop) (n : Nat) (L : Array Bool → Act → Prop) : Nat → Array Bool → Act → Prop
  | 0, listed, a => L listed a
  | f + 1, listed, a =>
    Region.ready md ops listed ≠ [] ∧ ∀ i ∈ Region.ready md ops listed, i < n ∧ qOp P ops C i (wpAnyLQ P md ops C n L f (listed.setIfInBounds i true)) a

theorem wpAny_of_headQ {n g : Nat} {L : Array Bool → Act → Prop} {Q' : Exit → Act → World → Prop} (hL : ∀ listed a w, C w → L listed a → wpAny P md ops Q' g listed a w) :
    ∀ (f : Nat) (listed : Array Bool) (a : Act) (w : World), C w → wpAnyLQ P md ops C n L f listed a → wpAny P md ops Q' (f + g) listed a w
  | 0, listed, a, w, hw, h => by rw [Nat.zero_add]; exact hL _ _ _ hw h
  | f + 1, listed, a, w, hw, h => by
    rw [show f + 1 + g = (f + g) + 1 by omega]
    exact ⟨fun h0 => absurd h0 h.1, fun i hi => wpOp_of_qOp hw (fun a' w' hw' h' => wpAny_of_headQ hL f _ a' w' hw' h') (h.2 i hi).2⟩

theorem wpAnyLQ_first {n i : Nat} {oi : Oper} {v : Value} {L : Array Bool → Act → Prop} (hi : ops[i]? = some oi) (hsel : ∀ (j : Nat) (o : Oper) cs b, ops[j]? = some o → o.op ≠ .select cs b)
    (hs : Region.sinkB md ops n = true) (hc : Region.chainB md ops n = true) (hn : n < ops.size) (hin : i < n)
    (hdone : ∀ listed a, L listed a → ∀ j ∈ Region.ready md ops listed, n ≤ j) :
    ∀ (f : Nat) (listed : Array Bool) (a : Act), HeadInv md ops n listed →
      (∀ j oj, ops[j]? = some oj → j ≠ i → listed.getD j true = false → (∀ e ∈ oj.after, Region.binds md e = true → e.on ≠ i) → oi.apart ops oj = true) →
      i ∈ Region.ready md ops listed → YieldsIn P ops C oi v a →
      wpAnyLQ P md ops C n L f (listed.setIfInBounds i true) (a.put oi.dst v) → wpAnyLQ P md ops C n L (f + 1) listed a := by
  intro f
  induction f with
  | zero =>
    intro listed a inv _ hr hy H
    have hun := (mem_ready.1 hr).1
    refine ⟨fun h => (by rw [h] at hr; cases hr), fun j hj => ?_⟩
    have hjn : j < n := by
      rcases Nat.lt_or_ge j n with h | h
      · exact h
      · exact absurd hj (tail_waits hs hc hn inv _ i rfl hin hun j h)
    refine ⟨hjn, ?_⟩
    by_cases hji : j = i
    · subst hji; exact hy.qOp hi H
    · have := hdone _ _ H j (ready_mono hj hji)
      omega
  | succ f ih =>
    intro listed a inv hfree hr hy H
    have hun := (mem_ready.1 hr).1
    refine ⟨fun h => (by rw [h] at hr; cases hr), fun j hj => ?_⟩
    have hjn : j < n := by
      rcases Nat.lt_or_ge j n with h | h
      · exact h
      · exact absurd hj (tail_waits hs hc hn inv _ i rfl hin hun j h)
    refine ⟨hjn, ?_⟩
    by_cases hji : j = i
    · subst hji; exact hy.qOp hi H
    · have h1 := (H.2 j (ready_mono hj hji)).2
      obtain ⟨hjun, oj, hoj, hall⟩ := mem_ready.1 hj
      have hnot : ∀ e ∈ oj.after, Region.binds md e = true → e.on ≠ i := fun e he hb heq => by
        have h1 := hall e he hb
        rw [heq, getD_both hun] at h1
        cases h1
      have h2 := qOp_put hoj (hfree j oj hoj hji hjun hnot) (fun cs b => hsel i oi cs b hi) (fun cs b => hsel j oj cs b hoj) hy h1
      have hfree' : ∀ k ok, ops[k]? = some ok → k ≠ i → (listed.setIfInBounds j true).getD k true = false →
          (∀ e ∈ ok.after, Region.binds md e = true → e.on ≠ i) → oi.apart ops ok = true := fun k ok hk hki hun hno => by
        refine hfree k ok hk hki ?_ hno
        by_cases hjk : j = k
        · subst hjk; exact hjun
        · rw [getD_set_ne true hjk] at hun; exact hun
      refine qOp_mono (fun a' h3 => ih (listed.setIfInBounds j true) a' (inv.set hj hjn) hfree' (ready_mono hr (Ne.symm hji)) h3.1 ?_) h2
      rw [Array.setIfInBounds_comm _ _ hji]
      exact h3.2

theorem wpAnyLQ_lex {n g : Nat} {Lq : Act → Prop} (hsel : Region.noSelect ops = true) (hs : Region.sinkB md ops n = true) (hc : Region.chainB md ops n = true) (hn : n < ops.size) :
    ∀ (l : List Oper) (k : Nat) (listed : Array Bool) (a : Act), (∀ j, j < l.length → l[j]? = ops[k + j]?) → k + l.length = n → HeadInv md ops n listed →
    Region.lexHead md ops g l.length k listed = true → wpQuiet P ops C Lq l a →
    wpAnyLQ P md ops C n (fun listed' a' => Region.seqB md ops g n listed' = true ∧ Lq a') l.length listed a
  | [], k, listed, a, _, hk, _, hB, h => by
    have : k = n := by simpa using hk
    subst this
    exact ⟨by simpa [Region.lexHead] using hB, h⟩
  | o :: l, k, listed, a, hl, hk, inv, hB, h => by
    have h0 : ops[k]? = some o := by simpa using (hl 0 (by simp)).symm
    simp only [List.length_cons, Region.lexHead, Bool.and_eq_true] at hB
    obtain ⟨⟨hr, hf⟩, hB'⟩ := hB
    have hkn : k < n := by simp only [List.length_cons] at hk; omega
    have hr' : k ∈ Region.ready md ops listed := by simpa using hr
    have hst : qOp P ops C k (wpQuiet P ops C Lq l) a := by unfold qOp; simp only [h0]; exact h
    obtain ⟨v, hy, hK⟩ := yieldsIn_of_qOp h0 hst
    exact wpAnyLQ_first h0 (Region.noSelect_spec hsel) hs hc hn hkn (fun listed' a' hL => seqB_ready hL.1) l.length listed a inv (Region.free_spec h0 hf) hr' hy
      (wpAnyLQ_lex hsel hs hc hn l (k + 1) _ _ (fun j hj => by have := hl (j + 1) (by simp; omega); simpa [Nat.add_assoc, Nat.add_comm 1 j] using this) (by simp only [List.length_cons] at hk; omega) (inv.set hr' hkn) hB' hK)

theorem wp_region_quiet_tail {id : Nat} {Q : Exit → Act → World → Prop} {a : Act} {w : World} {l : List Oper} (n : Nat) (hm : P.follows .mixedOrders = true) (hB : Region.lexTailB .any l.toArray n = true)
    (hC : C { w with drawn := w.drawn + 1 })
    (h : wpQuiet P l.toArray C (fun a' => ∀ w', C w' → wpList P l.toArray Q (l.drop n) a' w') (l.take n) a) : (Code.region id l.toArray true).wp P Q a w := by
  simp only [Region.lexTailB, Bool.and_eq_true, decide_eq_true_eq] at hB
  obtain ⟨⟨⟨⟨hsel, hn⟩, hs⟩, hc⟩, hlex⟩ := hB
  have hn' : n < l.length := by simpa using hn
  have htl : (l.take n).length = n := by simp; omega
  have hdl : (l.drop n).length = l.toArray.size - n := by simp
  have inv0 : HeadInv .any l.toArray n (Array.replicate l.toArray.size false) :=
    ⟨by simp, fun j oj _ hl => (by rw [getD_replicate_false] at hl; cases hl), fun t _ ht => getD_in (by simpa using ht) (getD_replicate_false _ _)⟩
  have H := wpAnyLQ_lex (C := C) (md := .any) (g := l.toArray.size - n) hsel hs hc hn (l.take n) 0 _ a (fun j hj => by
    have hj' : j < n := by rw [htl] at hj; exact hj
    simp [hj']) (by simpa using htl) inv0 (by rw [htl]; exact hlex) h
  refine wp_region_any hm ?_
  have := wpAny_of_headQ (C := C) (Q' := Q) (g := l.toArray.size - n) (fun listed a' w' hw' hL => by
    have := wpAny_of_seq (md := .any) (Q' := Q) (l.drop n) n listed a' w' (fun j => by simp [List.getElem?_drop]) (by rw [hdl]; exact hL.1) (hL.2 w' hw')
    rwa [hdl] at this) _ _ _ _ hC H
  rw [htl, show n + (l.toArray.size - n) = l.toArray.size by omega] at this
  exact this

/-- At the class 'w after some draws'. -/
theorem wp_quiet_tail {id : Nat} {Q : Exit → Act → World → Prop} {a : Act} {w : World} {l : List Oper} (n : Nat) (hm : P.follows .mixedOrders = true) (hB : Region.lexTailB .any l.toArray n = true)
    (h : wpQuiet P l.toArray (fun w' => ∃ n, w' = w.drewN n) (fun a' => ∀ w', (∃ n, w' = w.drewN n) → wpList P l.toArray Q (l.drop n) a' w') (l.take n) a) : (Code.region id l.toArray true).wp P Q a w :=
  wp_region_quiet_tail (C := fun w' => ∃ n, w' = w.drewN n) n hm hB ⟨1, rfl⟩ h
/-- At the class 'w grown'. -/
theorem wp_quiet_below_tail {id : Nat} {Q : Exit → Act → World → Prop} {a : Act} {w : World} {l : List Oper} (n : Nat) (hm : P.follows .mixedOrders = true) (hB : Region.lexTailB .any l.toArray n = true)
    (h : wpQuiet P l.toArray (fun w' => ∃ p : Regrown, w' = grow (redrawn w p.d) p.os) (fun a' => ∀ w', (∃ p : Regrown, w' = grow (redrawn w p.d) p.os) → wpList P l.toArray Q (l.drop n) a' w') (l.take n) a) : (Code.region id l.toArray true).wp P Q a w :=
  wp_region_quiet_tail (C := fun w' => ∃ p : Regrown, w' = grow (redrawn w p.d) p.os) n hm hB ⟨⟨w.drawn + 1, #[]⟩, by rw [grow_empty]; rfl⟩ h
end
end Go.Proofs.Ytfjnkidblalckaa
