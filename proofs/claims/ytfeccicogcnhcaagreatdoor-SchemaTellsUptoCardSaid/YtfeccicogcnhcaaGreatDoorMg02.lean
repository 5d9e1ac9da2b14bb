/- Parts: Qr, KinA, KinB, KinC, KinD. -/
import Derived.Sort.BigQuietIn
import Derived.Test.YtfeccicogcnhcaaGreatDoorMg01
import Derived.Maps.OwnIn
import Derived.Maps.Views
import Derived.StringKeys
import Derived.Test.YtfeccicogcnhcaaGreatDoorRows
import Derived.RangeFuncNested
import Derived.RangeFuncBound
import Derived.RangeFuncCalls
import Derived.RangeFuncLeaves
import Derived.RangeFuncBox
import Derived.RangeFuncWrites
import Derived.Shelf.Abstract
import Derived.OwnWalkIn
import Derived.TacticsInMore
import Derived.LoopNIn
import Derived.LoopIn
/- A region that draws its order, inside a round of a range over a function: one walk in the order of the text serves every order where the operations only read. Conditions: the Bools on the region. -/
namespace Go.Proofs.YtfeccicogcnhcaaGreatDoor
open Go Go.RowKit Go.BigFrame

def noDefB (ops : Array Oper) : Bool := ops.toList.all fun o => match o.op with | .defer _ => false | _ => true
theorem noDef_spec {ops : Array Oper} (h : noDefB ops = true) {i : Nat} {o : Oper} (ho : ops[i]? = some o) : ∀ c, o.op ≠ .defer c := by
  intro c hc
  have hm : o ∈ ops.toList := by rw [Array.mem_toList_iff]; exact Array.mem_of_getElem? ho
  have := List.all_eq_true.1 h o hm
  simp [hc] at this
section
variable {F : Fence} {n : Nat} {P : Program} {ops : Array Oper} {md : Region.Mode} {C : World → Prop}
theorem semAt_any {o : Oper} (ro : Option Nat) (ρ : Operand → Value) (h : ∀ c, o.op ≠ .defer c) : o.semAt ro ρ = execOp ρ o := by
  cases ro with
  | none => rfl
  | some l => exact Oper.semAt_some l ρ o h
theorem wpIn_of_quietR {o : Oper} {a : Act} {K : Act → Prop} {K' : Act → World → Prop} {Q' : Exit → Act → World → Prop} {w : World} (hnd : ∀ c, o.op ≠ .defer c) (hw : C w) (h : ∀ a w', C w' → K a → K' a w')
    (ha : o.askedIn F P a C) (hh : o.quietIn F n P a C K) : o.wpIn F n P a w K' Q' := by
  obtain ⟨v, h1, h2⟩ := hh
  have h3 := h1 w hw
  unfold Oper.quietAtIn at h3
  unfold Oper.wpIn
  refine ⟨ha w hw, ?_⟩
  rw [semAt_any _ _ hnd]
  generalize (execOp a.eval o).run P w = r at *
  cases r with
  | ok x w' =>
    cases x <;> simp only [Oper.quietUponIn] at h3 <;> simp only [Oper.uponIn]
    case value u =>
      obtain ⟨e1, e2⟩ := h3
      rw [e1, e2]
      exact h _ _ hw h2
    case skip =>
      obtain ⟨e1, e2⟩ := h3
      rw [e1, ← e2]
      exact h _ _ hw h2
    case enter f args =>
      obtain ⟨e1, hd, hc⟩ := h3
      rw [e1]
      exact ⟨hd, hc.mono fun e w'' ⟨he, hw''⟩ => by subst he; exact h _ _ hw'' h2⟩
  | halt x w' => simp only [Oper.quietUponIn] at h3
theorem wpOpIn_of_quietR {i : Nat} {a : Act} {K : Act → Prop} {K' : Act → World → Prop} {Q' : Exit → Act → World → Prop} {w : World} (hnd : noDefB ops = true) (hC : C w) (h : ∀ a w', C w' → K a → K' a w')
    (hh : qOpIn F n P ops C i K a) : wpOpIn F n P ops Q' i K' a w := by
  unfold qOpIn at hh
  unfold wpOpIn
  split
  · rename_i ho; simp only [ho] at hh; exact h _ _ hC hh
  · rename_i o ho
    simp only [ho] at hh
    obtain ⟨ha, hh⟩ := hh
    split
    · rename_i hw; simp only [hw, if_true] at hh; exact wpIn_of_quietR (noDef_spec hnd ho) hC h ha hh
    · rename_i hw; simp only [hw] at hh; exact ⟨ha w hC, h _ _ hC hh⟩
theorem wpAnyIn_of_quietR {Q : Act → Prop} {Q' : Exit → Act → World → Prop} (hnd : noDefB ops = true) (hQ : ∀ a w, C w → Q a → Q' .normal a w) : ∀ (fuel : Nat) (listed : Array Bool) (a : Act) (w : World), C w →
    wpAnyQIn F n P md ops C Q fuel listed a → wpAnyIn F n P md ops Q' fuel listed a w
  | 0, _, _, _, hw, h => ⟨h.1, hQ _ _ hw h.2⟩
  | fuel + 1, _, _, _, hw, h => ⟨fun h0 => hQ _ _ hw (h.1 h0), fun i hi => wpOpIn_of_quietR hnd hw (fun a' w' hw' => wpAnyIn_of_quietR hnd hQ fuel _ a' w' hw') (h.2 i hi)⟩
theorem wpIn_quiet_round {id : Nat} {Q : Exit → Act → World → Prop} {a : Act} {w : World} {l : List Oper} (hnd : noDefB l.toArray = true) (hm : P.follows .mixedOrders = true) (hB : Region.lexB .any l.toArray = true)
    (h : wpQuietIn F n P l.toArray (fun w' => ∃ n, w' = w.drewN n) (fun a' => ∀ w', (∃ n, w' = w.drewN n) → Q .normal a' w') l a) : (Code.region id l.toArray true).wpIn F n P Q a w := by
  simp only [Region.lexB, Bool.and_eq_true] at hB
  refine wpIn_region_any hm (wpAnyIn_of_quietR (C := fun w' => ∃ n, w' = w.drewN n) (Q := fun a' => ∀ w', (∃ n, w' = w.drewN n) → Q .normal a' w') hnd (fun _ w' hw' h => h w' hw') _ _ _ _ ⟨1, rfl⟩ ?_)
  have := wpAnyQIn_lex (F := F) (n := n) (C := fun w' => ∃ n, w' = w.drewN n) (md := .any) hB.1 l 0 (Array.replicate l.toArray.size false) a (by simp) (by simpa using hB.2) h
  simpa using this
end
open Go Go.RowKit
open Go.Maps (Keyed)

/-! ### Kin -/
/-- What comes of a kind is looked at once more: whoever it comes of. -/
def kinStep (S : ByteArray → Bool) (k : Knd) : ByteArray → Bool := if S k.name = true then fun s => S s || k.ofs.any (fun o => decide (o = s)) else S
def kinSet (l : List Knd) (name : ByteArray) : ByteArray → Bool := l.foldr (fun k S => kinStep S k) (fun s => decide (name = s))
def kinL (l : List Knd) (name : ByteArray) : List ByteArray := (l.filter fun k => kinSet l name k.name).map (·.name)

/-! ### A set of texts in memory -/
theorem plainElem_bool_inv {H : Type} {P : Program} {e : TypeId} (he : P.underlying e = some .bool) {v : Value} {z : DataW H × List MemPlace} (h : plainElem P e v = some z) : ∃ b, v = .bool b ∧ z = (.lit (.bool b), []) := by
  unfold plainElem at h
  rw [he] at h
  cases v <;> simp at h
  exact ⟨_, rfl, h.symm⟩
theorem lit_ne {s t : ByteArray} (h : ¬ s = t) : (Lit.string s.data.toList) ≠ (Lit.string t.data.toList) := by
  intro e
  injection e with e
  have := Array.toList_inj.1 e
  exact h (by cases s; cases t; simp at this; rw [this])

def SetIs (D : DataW Unit) (S : ByteArray → Bool) : Prop := Maps.IsMap D ∧ ∀ s : ByteArray, s.size ≤ maxLen → D.atKey (.string s.data.toList) (.lit (.bool false)) = .lit (.bool (S s))
theorem SetIs.empty : SetIs (.map []) (fun _ => false) := ⟨⟨[], rfl⟩, fun _ _ => rfl⟩
theorem SetIs.put {D : DataW Unit} {S : ByteArray → Bool} (h : SetIs D S) {x : ByteArray} (hk : WideAt.IsKeyLit (.string x.data.toList)) : SetIs (D.put (.string x.data.toList) (.lit (.bool true))) (fun s => S s || decide (x = s)) := by
  refine ⟨h.1.put _ _, fun s hs => ?_⟩
  by_cases e : x = s
  · subst e
    rw [Maps.atKey_put_same h.1 hk]
    simp
  · rw [Maps.atKey_put_other (lit_ne (fun e' => e e'.symm)), h.2 s hs]
    simp [e]

/-- Block b is a map of at most n entries: the set S. -/
def MapS (w : World) (b n : Nat) (S : ByteArray → Bool) : Prop :=
  ∃ D : DataW Unit, w.ownsMap Tryz.prog 9 (plainElem Tryz.prog 4) b n D ∧ SetIs D S
theorem zeroBool (w : World) : (zeroValue 4).run Tryz.prog w = .ok (.bool false) w := by kernel_rfl
theorem setLaw : Keyed Tryz.prog 9 := Maps.string_keyed Tryz.underlying9
theorem MapS.made (w : World) : MapS (w.alloc (.map #[] 0)) w.heap.size 0 (fun _ => false) := ⟨_, World.ownsMap_made w _ _ _, SetIs.empty⟩
theorem MapS.mono {w : World} {b n n' : Nat} {S : ByteArray → Bool} (h : MapS w b n S) (hn : n ≤ n') : MapS w b n' S := by
  obtain ⟨D, h1, h2⟩ := h
  exact ⟨D, h1.mono hn, h2⟩
theorem MapS.kept {w w' : World} {b n : Nat} {S : ByteArray → Bool} {row : Option Nat} (h : MapS w b n S) (hg : w.grownBy w' row) (hne : some b ≠ row) : MapS w' b n S := by
  obtain ⟨D, h1, h2⟩ := h
  exact ⟨D, h1.kept hg hne, h2⟩
theorem MapS.alloc {w : World} {b n : Nat} {S : ByteArray → Bool} (h : MapS w b n S) (o : Obj) : MapS (w.alloc o) b n S := h.kept (World.grownBy_alloc w o none) (by simp)
theorem MapS.lt {w : World} {b n : Nat} {S : ByteArray → Bool} (h : MapS w b n S) : b < w.heap.size := by
  obtain ⟨D, h1, _⟩ := h
  exact h1.lt
set_option maxRecDepth 100000 in
theorem MapS.look {w : World} {b n : Nat} {S : ByteArray → Bool} (h : MapS w b n S) {s : ByteArray} (hs : s.size ≤ maxLen) :
    (Instr.lookup 137 (.map (some b)) (.string s) false).run Tryz.prog w = .ok (.bool (S s)) w := by
  obtain ⟨D, h1, h2⟩ := h
  obtain ⟨v, ps, hrun, hv⟩ := h1.lookup setLaw Tryz.underlying137 (zeroBool w) (plainElem_bool Tryz.underlying4 false) (WideMaps.keyOf_string_mk Tryz.underlying9 hs)
  obtain ⟨x, rfl, hx⟩ := plainElem_bool_inv Tryz.underlying4 hv
  rw [h2.2 s hs] at hx
  injection hx with hx _
  injection hx with hx
  injection hx with hx
  rw [hrun, hx]
set_option maxRecDepth 100000 in
theorem MapS.put {w : World} {b n : Nat} {S : ByteArray → Bool} (h : MapS w b n S) (hn : n < maxLen) {s : ByteArray} (hs : s.size ≤ maxLen) :
    ∃ w', (Instr.mapUpdate 137 (.map (some b)) (.string s) (.bool true)).run Tryz.prog w = .ok () w' ∧ MapS w' b (n + 1) (fun t => S t || decide (s = t)) ∧ w.grownBy w' (some b) := by
  obtain ⟨D, h1, h2⟩ := h
  have hkey := WideMaps.keyOf_string_mk Tryz.underlying9 hs
  obtain ⟨w', hrun, hm, hg⟩ := h1.update setLaw Tryz.underlying137 hn hkey (plainElem_bool (H := Unit) Tryz.underlying4 true)
  exact ⟨w', hrun, ⟨_, hm, h2.put trivial⟩, hg⟩
open Go Go.RowKit Go.Shelf

attribute [local go_sem] Oper.semAt_some

/-- A kind's value, in whatever later world. -/
structure KndAt (w : World) (b o : Nat) (l : List Knd) (f : Fin l.length → Value × Value) : Prop where
  at_ : ∀ i : Fin l.length, w.cell? ⟨b, o + i.1 * 3, none⟩ = some (.string (l[i.1]).name) ∧ w.cell? ⟨b, o + i.1 * 3 + 1, none⟩ = some (f i).1 ∧ w.cell? ⟨b, o + i.1 * 3 + 2, none⟩ = some (f i).2 ∧
    Sm (l[i.1]).name ∧ Sl strL w (f i).1 (l[i.1]).ofs ∧ Sl fldL w (f i).2 (l[i.1]).fields
theorem kndAt_of {w : World} {A : Option Addr} {n c : Nat} {l : List Knd} (h : Sl kndL w (.slice A n c) l) (h0 : 0 < l.length) : ∃ b o f, A = some ⟨b, o, none⟩ ∧ KndAt w b o l f := by
  obtain ⟨b, o, hA, hall⟩ := knd_all h h0
  have : ∀ i : Fin l.length, ∃ p : Value × Value, w.cell? ⟨b, o + i.1 * 3, none⟩ = some (.string (l[i.1]).name) ∧ w.cell? ⟨b, o + i.1 * 3 + 1, none⟩ = some p.1 ∧ w.cell? ⟨b, o + i.1 * 3 + 2, none⟩ = some p.2 ∧
      Sm (l[i.1]).name ∧ Sl strL w p.1 (l[i.1]).ofs ∧ Sl fldL w p.2 (l[i.1]).fields := fun i => by
    obtain ⟨u, x, h1, h2, h3, c0, c1, c2⟩ := hall i.1 _ (List.getElem?_eq_getElem i.2)
    exact ⟨(u, x), c0, c1, c2, h1, h2, h3⟩
  exact ⟨b, o, fun i => Classical.choose (this i), hA, ⟨fun i => Classical.choose_spec (this i)⟩⟩
theorem KndAt.below {w w' : World} {b o : Nat} {l : List Knd} {f : Fin l.length → Value × Value} (hb : Below w.heap.size w w') (h : KndAt w b o l f) : KndAt w' b o l f :=
  ⟨fun i => let ⟨c0, c1, c2, h1, h2, h3⟩ := h.at_ i; ⟨cell_below hb c0, cell_below hb c1, cell_below hb c2, h1, h2.below hb, h3.below hb⟩⟩
/-- What a round is handed. -/
def kndEnc (l : List Knd) (f : Fin l.length → Value × Value) (i : Fin l.length) : Array Value := #[.int .i64 (i.1 : Int), .agg #[.string (l[i.1]).name, (f i).1, (f i).2]]
def downL (n : Nat) : List (Fin n) := (List.finRange n).reverse
theorem downL_length (n : Nat) : (downL n).length = n := by simp [downL]
theorem downL_get (n m k : Nat) (h : m + 1 + k = n) : (downL n)[k]? = some ⟨m, by omega⟩ := by
  unfold downL
  rw [List.getElem?_reverse (by simp; omega)]
  simp only [List.length_finRange]
  rw [List.getElem?_eq_getElem (by simp; omega)]
  congr 1
  apply Fin.ext
  simp
  omega
theorem take_step {α : Type} {l : List α} {k : Nat} {x : α} (h : l[k]? = some x) : l.take (k + 1) = l.take k ++ [x] := by
  rw [List.take_add_one, h]; rfl

/-- What a round that goes on keeps: all that lay below n, and the iterator's own box. -/
def KeepsBox (n Bs : Nat) (W W' : World) : Prop := Below n W W' ∧ W'.cell? ⟨Bs, 0, none⟩ = W.cell? ⟨Bs, 0, none⟩
theorem keepsBox_t {n Bs : Nat} {X Y Z : World} (h : KeepsBox n Bs X Y) (k : KeepsBox n Bs Y Z) : KeepsBox n Bs X Z := ⟨h.1.trans k.1, k.2.trans h.2⟩
theorem keepsBox_b {n Bs : Nat} {w : World} (hn : n ≤ w.heap.size) (hB : Bs < w.heap.size) (W : World) (l : Nat) (o o' : Obj) (hl : w.heap.size ≤ l) (h : W.heap[l]? = some o) (h1 : o.isCells = false) (h2 : o.isWalk = false) : KeepsBox n Bs W (W.putObj l o') := by
  refine ⟨belowK_b hn W l o o' hl h h1 h2, ?_⟩
  have hb : Below (Bs + 1) W (W.putObj l o') := belowK_b (w := w) (by omega) W l o o' hl h h1 h2
  exact hb.cell (p := ⟨Bs, 0, none⟩) (by simp)

set_option maxRecDepth 100000 in
set_option maxHeartbeats 2000000 in
theorem backward1_in (F : Fence) (n : Nat) (hF : F.fn 114) (hro : F.round = none) (hn : 1 ≤ n) (lr Bs c : Nat) (w0 : World) (A : Option Addr) (l : List Knd) (f : Fin l.length → Value × Value)
    (hl : Sl kndL w0 (.slice A l.length c) l) (hf : 0 < l.length → ∃ b o, A = some ⟨b, o, none⟩ ∧ KndAt w0 b o l f) (J Jx : List (Fin l.length) → World → Prop)
    (hY : ∀ pre x W, J pre W → pre.length < l.length → YieldAt F (n - 1) Tryz.prog lr (kndEnc l f x) W fun e W' =>
      (e = .returned (.bool true) ∧ J (pre ++ [x]) W' ∧ KeepsBox w0.heap.size Bs W W') ∨ (e = .returned (.bool false) ∧ Jx (pre ++ [x]) W'))
    (W : World) (hW : Below w0.heap.size w0 W) (hBs : W.cell? ⟨Bs, 0, none⟩ = some (.slice A l.length c)) (h0 : J [] W) :
    CallsIn F n Tryz.prog 114 #[.func (.yield lr) #[] #[], .pointer (some ⟨Bs, 0, none⟩)] W fun e W' => (∃ v, e = .returned v) ∧
      ((∃ ys, ys = downL l.length ∧ J ys W') ∨ (∃ pre, pre <+: downL l.length ∧ Jx pre W')) := by
  obtain ⟨_, _, _, _, hc2⟩ := hl.form
  have hlm : (l.length : Int) ≤ 9223372036854775807 := by unfold maxLen at hc2; omega
  refine callsIn_of_wp Tryz.func114 rfl hF ?_ hro
  simp only [Tryz.ntmps114, List.size_toArray, List.length_cons, List.length_nil, Nat.reduceAdd, Nat.reduceSub, Array.replicate_succ, Array.replicate_zero, List.push_toArray, List.append_toArray, List.nil_append, List.cons_append]
  gi_wp2
  gi_loopw [3] (fun i wr => ∃ (z : Int) (m k : Nat), i = .int .i64 z ∧ m + k = l.length ∧ z = (m : Int) - 1 ∧ J ((downL l.length).take k) wr ∧ Below w0.heap.size w0 wr ∧ wr.cell? ⟨Bs, 0, none⟩ = some (.slice A l.length c)) (fun i _ => (intOf i + 1).toNat)
  case atStart => exact ⟨_, l.length, 0, by go_num, by omega, rfl, h0, hW, hBs⟩
  case round =>
    obtain ⟨z, m, k, rfl, hmk, hz, hJs, hnx, hbox⟩ := hrel
    cases m with
    | zero =>
      obtain rfl : k = l.length := by omega
      have hz0 : z < 0 := by omega
      have hz1 : decide (0 ≤ z) = false := decide_eq_false (by omega)
      clear hz
      gi_wp2
      go_end0
      exact ⟨⟨_, rfl⟩, .inl ⟨_, rfl, by rw [List.take_of_length_le (by simp [downL_length])] at hJs; exact hJs⟩⟩
    | succ m =>
      obtain rfl : z = (m : Int) := by omega
      have hm0 : (0 : Int) ≤ (m : Int) := by omega
      have hm1 : decide ((0 : Int) ≤ (m : Int)) = true := decide_eq_true hm0
      have hml : m < l.length := by omega
      have hml' : (m : Int) < (l.length : Int) := by omega
      have hg := downL_get l.length m k (by omega)
      obtain ⟨b, o, rfl, hK⟩ := hf (by omega)
      obtain ⟨c0, c1, c2, _, _, _⟩ := (hK.below hnx).at_ ⟨m, hml⟩
      dsimp only at c0 c1 c2
      obtain ⟨fn, tmps, assign, body, hy, hR⟩ := hY _ ⟨m, hml⟩ wr hJs (by simp [downL_length]; omega)
      simp only [kndEnc] at hy
      generalize (l[m]'hml).name = d0 at c0 hy
      generalize (f ⟨m, hml⟩).1 = d1 at c1 hy
      generalize (f ⟨m, hml⟩).2 = d2 at c2 hy
      have HG := Lib.hid hg
      clear hg hz hK hf hY hW h0
      gi_wp2
      refine hR.mono ?_
      rintro e W3 (⟨rfl, hJ3, hk3⟩ | ⟨rfl, hJx3⟩)
      · gi_wp2
        go_roundw
        case rel => exact ⟨(m : Int) - 1, m, k + 1, by go_num, by omega, rfl, by rw [take_step HG.out]; exact hJ3, hnx.trans hk3.1, hk3.2.trans hbox⟩
        case measure => simp [intOf]
      · gi_wp2
        refine bodyPost_ret (results_none rfl _ _ _) rfl ?_
        exact ⟨⟨_, rfl⟩, .inr ⟨_, by rw [← take_step HG.out]; exact List.take_prefix _ _, hJx3⟩⟩

set_option maxHeartbeats 1000000 in
theorem backward_in (F : Fence) (n : Nat) (hF : F.fn 90) (hro : F.round = none) (v : Value) (A : Option Addr) (len c : Nat) (hv : v = .slice A len c) (w : World) :
    CallsIn F n Tryz.prog 90 #[v] w fun e w' => e = .returned (.func (.func 114) #[] #[.pointer (some ⟨w.heap.size, 0, none⟩)]) ∧ w' = w.alloc (.cells #[v] 22) := by
  subst hv
  refine callsIn_of_wp Tryz.func90 rfl hF ?_ hro
  simp only [Tryz.ntmps90, List.size_toArray, List.length_cons, List.length_nil, Nat.reduceAdd, Nat.reduceSub, Array.replicate_succ, Array.replicate_zero, List.push_toArray, List.append_toArray, List.nil_append, List.cons_append]
  gi_wp2
  go_ret
  exact ⟨rfl, rfl⟩
theorem backward_stops (F : Fence) (n : Nat) (hF : F.fn 114) (hro : F.round = none) (hn : 1 ≤ n) (Bs c : Nat) (w0 W0 : World) (A : Option Addr) (l : List Knd) (f : Fin l.length → Value × Value)
    (hl : Sl kndL w0 (.slice A l.length c) l) (hf : 0 < l.length → ∃ b o, A = some ⟨b, o, none⟩ ∧ KndAt w0 b o l f) (hW0 : Below w0.heap.size w0 W0) (hBs : W0.cell? ⟨Bs, 0, none⟩ = some (.slice A l.length c)) :
    SeqStopsK F n Tryz.prog 114 #[.pointer (some ⟨Bs, 0, none⟩)] (kndEnc l f) (KeepsBox w0.heap.size Bs) (fun ys => ys = downL l.length) (fun pre => pre <+: downL l.length) l.length W0 := fun lr J Jx W hW _ _ hY h0 =>
  backward1_in F n hF hro hn lr Bs c w0 A l f hl hf J Jx hY W (hW0.trans (hW.mono hW0.size)) (cell_below hW hBs) h0

attribute [local go_sem] Oper.semAt_some

/-- The set behind some rounds. -/
def kinFold (l : List Knd) (name : ByteArray) (pre : List (Fin l.length)) : ByteArray → Bool := pre.foldl (fun S i => kinStep S l[i.1]) (fun s => decide (name = s))
theorem kinFold_snoc (l : List Knd) (name : ByteArray) (pre : List (Fin l.length)) (i : Fin l.length) : kinFold l name (pre ++ [i]) = kinStep (kinFold l name pre) l[i.1] := by simp [kinFold]
theorem kinFold_all (l : List Knd) (name : ByteArray) : kinFold l name (downL l.length) = kinSet l name := by
  unfold kinFold kinSet downL
  rw [List.foldl_reverse]
  have : ∀ (m : List Knd) (g : Fin m.length → Fin m.length), (List.finRange m.length).map (fun i : Fin m.length => m[i.1]) = m := fun m _ => by
    apply List.ext_getElem
    · simp
    · intro i h1 h2; simp
  have h2 := this l id
  conv => rhs; rw [← h2]
  rw [List.foldr_map]

theorem cell_grown {w w' : World} {row : Option Nat} (hg : w.grownBy w' row) {b o : Nat} {v : Value} (h : w.cell? ⟨b, o, none⟩ = some v) (hne : some b ≠ row) : w'.cell? ⟨b, o, none⟩ = some v := by
  have hlt := World.block_lt_of_cell? _ _ h
  have := hg.block b hlt hne
  unfold World.cell? at h ⊢
  dsimp only at h ⊢
  rw [this]; exact h

theorem grown_drewN (W : World) (n : Nat) (row : Option Nat) : W.grownBy (W.drewN n) row := ⟨rfl, rfl, rfl, Nat.le_refl _, fun _ _ _ => rfl⟩
/-- append onto an owned slice, inside a fence. -/
theorem wpListIn_append_q {F : Fence} {n0 : Nat} {P : Program} (w : World) {ops : Array Oper} {rest : List Oper} {o : Oper} {a : Act} {Q : Exit → Act → World → Prop} (hgd : o.guard = none) (s x : Operand) (t : TypeId)
    (ho : o.op = .call { callee := .builtin .append, args := #[s, x], argTypes := #[t, t] })
    (B : Nat) (e : TypeId) (i : TypeInfo) (z : Value) (size bytes : Nat) (ht : P.underlying t = some (.slice e)) (hi : P.info? e = some i) (hz : i.zero = some z)
    (hsize : i.size = size) (hby : i.bytes = bytes) (hzs : z.cells.size = size) (hsz : 0 < size)
    (v : Value) (n : Nat) (xs : List Value) (hs : a.eval s = v) (hown : Own w B e size v n xs)
    (A : Option Addr) (m c : Nat) (news : List Value) (hx : a.eval x = .slice A m c) (hl : news.length = m * size) (hA : 0 < m → ∃ a, A = some a ∧ ∀ j u, news[j]? = some u → w.cell? (a.add j) = some u) (h1 : ∀ u ∈ news, u.oneCell' = true)
    (h63 : n + m ≤ maxLen) (hbytes : (n + m) * bytes ≤ 140737488355328) (hbase : B ≤ w.heap.size)
    (h : ∀ v' w', Own w' B e size v' (n + m) (xs ++ news) → w.grownBy w' v.ownBlock → (v'.ownBlock = v.ownBlock ∨ v'.ownBlock = some w.heap.size) → wpListIn F n0 P ops Q rest (a.put o.dst v') w') : wpListIn F n0 P ops Q (o :: rest) a w := by
  refine wpListIn_plain hgd fun K hK' => ?_
  obtain ⟨v', w', hr, h2, h3, h4⟩ := run_append_q (P := P) w B t o.type e i z size bytes ht hi hz hsize hby hzs hsz v n xs hown A m c news hl hA h1 h63 hbytes hbase
  unfold Oper.wpIn
  refine ⟨?_, ?_⟩
  · simp [Oper.about, ho, resolve, Target.leads, Sem.run_pure]
  · rw [Oper.semAt_plain F _ _ (by rw [ho]; intro c hc'; cases hc')]
    simp [execOp, ho, resolve, invoke, builtin, hs, hx, hr, Result.andThen]
    exact hK' _ _ (h v' w' h2 h3 h4)
theorem Own.strs {w : World} {B : Nat} {e : TypeId} {v : Value} {l : List ByteArray} (hl : ∀ x ∈ l, Sm x) (h : Own w B e 1 v l.length (l.map Value.string)) : Sl strL w v l := by
  obtain ⟨A, c, rfl, h1, h2⟩ := h.form
  refine ⟨A, c, rfl, h1, h2, fun i d hi => ?_⟩
  obtain ⟨g, o, c', hv, _, _⟩ := h.addr (len_pos hi)
  injection hv with hA _ hc
  subst hA; subst hc
  refine ⟨g, o, _, rfl, ⟨rfl, hl d (List.mem_of_getElem? hi)⟩, fun j u hj => ?_⟩
  match j, hj with
  | 0, hj =>
    simp at hj
    subst hj
    have := h.cell rfl (j := i) (u := .string d) (by rw [List.getElem?_map, hi]; rfl)
    simpa [strL, flatL] using this
theorem MapS.of_block {w w' : World} {b n : Nat} {S : ByteArray → Bool} (h : MapS w b n S) (hb : w'.heap[b]? = w.heap[b]?) : MapS w' b n S := by
  obtain ⟨D, ⟨es, clock, h1, h2⟩, h3⟩ := h
  exact ⟨D, ⟨es, clock, hb.trans h1, h2⟩, h3⟩
theorem str_info : (Tryz.prog.info? 9).map (fun i => (i.zero, i.size, i.bytes)) = some (some (.string .empty), 1, 16) := by kernel_rfl

/-- What stands between two rounds. -/
structure KinI (p q : Nat) (sv : Value) (W : World) (N : Nat) (S : ByteArray → Bool) : Prop where
  c0 : W.cell? ⟨p, 0, none⟩ = some sv
  c1 : W.cell? ⟨q, 0, none⟩ = some (.map (some (p + 1)))
  c2 : W.cell? ⟨q + 1, 0, none⟩ = some sv
  m : MapS W (p + 1) N S
theorem KinI.drewN {p q N : Nat} {sv : Value} {W : World} {S : ByteArray → Bool} (h : KinI p q sv W N S) (n : Nat) : KinI p q sv (W.drewN n) N S := ⟨h.c0, h.c1, h.c2, h.m⟩
theorem KinI.put {p q N : Nat} {sv : Value} {W : World} {S : ByteArray → Bool} (h : KinI p q sv W N S) (hq : p + 1 < q) (hN : N < maxLen) {s : ByteArray} (hs : s.size ≤ maxLen) :
    ∃ W', (Instr.mapUpdate 137 (.map (some (p + 1))) (.string s) (.bool true)).run Tryz.prog W = .ok () W' ∧ KinI p q sv W' (N + 1) (fun t => S t || decide (s = t)) ∧ W.grownBy W' (some (p + 1)) := by
  obtain ⟨W', hr, hm, hg⟩ := h.m.put hN hs
  exact ⟨W', hr, ⟨cell_grown hg h.c0 (by simp), cell_grown hg h.c1 (by simp; omega), cell_grown hg h.c2 (by simp; omega), hm⟩, hg⟩
theorem KinI.keepsBox {p q N M : Nat} {sv : Value} {W W' : World} {S T : ByteArray → Bool} (h : KinI p q sv W N S) (k : KinI p q sv W' M T) (hb : Below p W W') : KeepsBox p (q + 1) W W' := ⟨hb, k.c2.trans h.c2.symm⟩

set_option maxRecDepth 100000 in
set_option maxHeartbeats 8000000 in
theorem kinOf_any (l : List Knd) (name : ByteArray) (v : Value) (w : World) (hv : Sl kndL w v l) (hnm : Sm name) (hll : l.length ≤ 64) (hofs : ∀ k ∈ l, k.ofs.length ≤ 64) :
    Calls Tryz.prog 64 #[v, .string name] w fun e w' => ∃ u, e = .returned u ∧ Sl strL w' u (kinL l name) ∧ Below w.heap.size w w' := by
  have hv0 := hv
  obtain ⟨A, c, rfl, hc1, hc2⟩ := hv.form
  obtain ⟨f, hf⟩ : ∃ f : Fin l.length → Value × Value, 0 < l.length → ∃ b o, A = some ⟨b, o, none⟩ ∧ KndAt w b o l f := by
    by_cases h0 : 0 < l.length
    · obtain ⟨b, o, f, h1, h2⟩ := kndAt_of hv h0
      exact ⟨f, fun _ => ⟨b, o, h1, h2⟩⟩
    · exact ⟨fun i => absurd i.2 (by omega), fun h => absurd h h0⟩
  obtain ⟨w1, hput, hM1, hg1⟩ := (MapS.made (w.alloc (.cells #[.slice A l.length c] 22))).put (by unfold maxLen; omega) (s := name) (by unfold Sm at hnm; unfold maxLen; omega)
  simp only [World.size_alloc] at hput hM1 hg1
  have hM : MapS w1 (w.heap.size + 1) 1 (fun s => decide (name = s)) := by simpa using hM1
  have hB1 : Below w.heap.size w w1 := (((Below.refl _ _).alloc (Nat.le_refl _) _).alloc (by simp) _).grown hg1 (by simp; omega) (fun k e => by cases e; omega)
  have hs1 : w.heap.size + 1 < w1.heap.size := hM.lt
  have hs0 : w.heap.size < w1.heap.size := by omega
  have hc0 : w1.cell? ⟨w.heap.size, 0, none⟩ = some (.slice A l.length c) := by
    have h0 : ((w.alloc (.cells #[.slice A l.length c] 22)).alloc (.map #[] 0)).cell? ⟨w.heap.size, 0, none⟩ = some (.slice A l.length c) := by
      rw [((Below.refl (w.heap.size + 1) (w.alloc (.cells #[.slice A l.length c] 22))).alloc (by simp) (.map #[] 0)).cell (by simp), World.cell?_alloc_at _ _ _ _ rfl]
      rfl
    exact cell_grown hg1 h0 (by simp)
  have hmm := @run_makeMap Tryz.prog
  clear hM1 hg1
  refine (callsIn_wide (n := 5)).1 ?_
  refine callsIn_of_wp_marks Tryz.func64 rfl trivial ?_ rfl
  simp only [Tryz.ntmps64, List.size_toArray, List.length_cons, List.length_nil, Nat.reduceAdd, Nat.reduceSub, Array.replicate_succ, Array.replicate_zero, List.push_toArray, List.append_toArray, List.nil_append, List.cons_append]
  gi_wp2_with (refine ⟨trivial, ?_⟩; gi_at_call 90; refine (backward_in _ _ trivial rfl _ _ _ _ rfl _).mono ?_; rintro e w' ⟨rfl, rfl⟩)
  have hB2 : Below w.heap.size w ((w1.alloc (.cells #[.map (some (w.heap.size + 1))] 137)).alloc (.cells #[.slice A l.length c] 22)) := (hB1.alloc hB1.size _).alloc (by have := hB1.size; simp; omega) _
  have d0 : ((w1.alloc (.cells #[.map (some (w.heap.size + 1))] 137)).alloc (.cells #[.slice A l.length c] 22)).cell? ⟨w1.heap.size + 1, 0, none⟩ = some (.slice A l.length c) := by
    rw [World.cell?_alloc_at _ _ _ _ (by simp)]; rfl
  have d1 : ((w1.alloc (.cells #[.map (some (w.heap.size + 1))] 137)).alloc (.cells #[.slice A l.length c] 22)).cell? ⟨w1.heap.size, 0, none⟩ = some (.map (some (w.heap.size + 1))) := by
    rw [((Below.refl (w1.heap.size + 1) (w1.alloc (.cells #[.map (some (w.heap.size + 1))] 137))).alloc (by simp) _).cell (by simp), World.cell?_alloc_at _ _ _ _ rfl]; rfl
  have d2 : ((w1.alloc (.cells #[.map (some (w.heap.size + 1))] 137)).alloc (.cells #[.slice A l.length c] 22)).cell? ⟨w.heap.size, 0, none⟩ = some (.slice A l.length c) :=
    cell_below ((Below.refl _ _).alloc (by simp) _) (cell_below ((Below.refl _ _).alloc (by simp) _) hc0)
  have hM2 : MapS ((w1.alloc (.cells #[.map (some (w.heap.size + 1))] 137)).alloc (.cells #[.slice A l.length c] 22)) (w.heap.size + 1) (1 + 64 * 0) (fun s => decide (name = s)) := (hM.alloc _).alloc _
  clear hput hM hc0 hB1
  refine wpIn_rangeFunc_ownG rfl (by decide) (gf := 114) (lb := #[.pointer (some ⟨w1.heap.size + 1, 0, none⟩)]) rfl trivial (enters_of Tryz.func114 (by kernel_rfl) rfl)
    (backward_stops Fence.wide 4 trivial rfl (by omega) (w1.heap.size + 1) c w _ A l f hv0 hf hB2 d0) keepsBox_t (keepsBox_b (by simp; omega) (by simp)) (Below.refl _ _) (fun _ => rfl)
    (fun pre W => KinI w.heap.size w1.heap.size (.slice A l.length c) W (1 + 64 * pre.length) (kinFold l name pre) ∧ Below w.heap.size w W)
    (fun _ _ _ => False)
    (OwnFrom.and (fun s X Y row hs hg hr => ⟨cell_kept hs.c0 hg (fun r e => (hr r e).2), cell_kept hs.c1 hg (fun r e => (hr r e).2), cell_kept hs.c2 hg (fun r e => (hr r e).2), hs.m.kept hg (fun e => by have := (hr _ e.symm).1; simp at this; omega)⟩) (ownFrom_below (Nat.le_refl _) (by simp; omega)))
    (fun _ _ _ _ _ hs _ _ => hs)
    ⟨⟨d2, d1, d0, hM2⟩, hB2⟩
    ?a1 ?assign ?body ?done ?stop
  case assign =>
    intro lr x W K hK
    simp only [kndEnc]
    gi_wp2
    exact hK
  case body =>
    rintro lr pre x W ⟨hI, hB⟩ hlt
    clear hB2 d0 d1 d2 hM2
    obtain ⟨m, hm⟩ := x
    obtain ⟨b, o, rfl, hK⟩ := hf (by omega)
    obtain ⟨c0, c1, c2, hsm, _, _⟩ := (hK.below hB).at_ ⟨m, hm⟩
    obtain ⟨_, _, _, _, hso, _⟩ := hK.at_ ⟨m, hm⟩
    dsimp only at c0 c1 c2 hsm hso
    have HO : Hid ((l[m]'hm).ofs.length ≤ 64) := hofs _ (List.getElem_mem hm)
    have HF : Hid (kinFold l name (pre ++ [⟨m, hm⟩]) = kinStep (kinFold l name pre) (l[m]'hm)) := kinFold_snoc l name pre ⟨m, hm⟩
    have hlp : (pre ++ [(⟨m, hm⟩ : Fin l.length)]).length = pre.length + 1 := by simp
    generalize (f ⟨m, hm⟩).1 = u1 at c1 hso
    generalize (f ⟨m, hm⟩).2 = u2 at c2
    generalize l[m]'hm = d at *
    generalize hS0 : kinFold l name pre = S0 at *
    clear hS0 hK hf hv hv0
    have hlook : ∀ n, (Instr.lookup 137 (.map (some (w.heap.size + 1))) (.string d.name) false).run Tryz.prog (W.drewN n) = .ok (.bool (S0 d.name)) (W.drewN n) := fun n => (hI.drewN n).m.look (by unfold Sm at hsm; unfold maxLen; omega)
    have k0 := hI.c0
    have k1 := hI.c1
    have hml' : (m : Int) < (l.length : Int) := by omega
    have hb3 := hB.size
    cases hS : S0 d.name with
    | false =>
      rw [hS] at hlook
      have HF2 : Hid (kinFold l name (pre ++ [⟨m, hm⟩]) = S0) := by unfold Hid; rw [HF.out]; unfold kinStep; rw [hS]; simp
      clear HF hS
      gi_wp2
      refine wpIn_quiet_round (by kernel_rfl) (by kernel_rfl) (by kernel_rfl) ?_
      repeat (gi_big_quiet_step (fail))
      refine wpQuietIn_nil ?_
      intro _ hw'
      obtain ⟨nq, hw''⟩ := hw'
      subst hw''
      clear hlook
      gi_wp2
      refine ⟨KeepsFrom.of_grownBy (grown_drewN W nq none) (fun j e => by cases e), (hI.keepsBox (hI.drewN nq) (Go.below_drewN (Below.refl _ _) nq)), ?_⟩
      dsimp only
      rw [HF2.out, hlp]
      exact ⟨⟨k0, k1, hI.c2, hI.m.mono (by omega)⟩, Go.below_drewN hB nq⟩
    | true =>
      rw [hS] at hlook
      have HF2 : Hid (kinFold l name (pre ++ [⟨m, hm⟩]) = fun s => S0 s || d.ofs.any (fun o => decide (o = s))) := by unfold Hid; rw [HF.out]; unfold kinStep; rw [hS]; simp
      clear HF hS
      obtain ⟨Ao, co, rfl, ho1, ho2⟩ := hso.form
      gi_wp2
      refine wpIn_quiet_round (by kernel_rfl) (by kernel_rfl) (by kernel_rfl) ?_
      repeat (gi_big_quiet_step (fail))
      refine wpQuietIn_nil ?_
      intro _ hw'
      obtain ⟨nq, hw''⟩ := hw'
      subst hw''
      clear hlook
      gi_wp2
      gi_loopw [32] (fun i wr => ∃ j : Nat, j ≤ d.ofs.length ∧ i = .int .i64 j ∧ KeepsFrom (w1.heap.size + 1 + 1) W wr ∧ Below w.heap.size W wr ∧
        KinI w.heap.size w1.heap.size (.slice (some ⟨b, o, none⟩) l.length c) wr (1 + 64 * pre.length + j) (fun s => S0 s || (d.ofs.take j).any (fun o => decide (o = s)))) (fun i _ => d.ofs.length - (intOf i).toNat)
      case atStart => exact ⟨0, Nat.zero_le _, rfl, KeepsFrom.of_grownBy (grown_drewN W nq none) (fun j e => by cases e), Go.below_drewN (Below.refl _ _) nq, by simpa using hI.drewN nq⟩
      case round =>
        obtain ⟨j, hj, rfl, hkf, hbj, hIj⟩ := hrel
        have hBj := hB.trans (hbj.mono (Nat.le_refl _))
        have n1 := hIj.c1
        by_cases hj2 : j < d.ofs.length
        · obtain ⟨s, hs⟩ : ∃ s, d.ofs[j]? = some s := ⟨_, List.getElem?_eq_getElem hj2⟩
          obtain ⟨bo, oo, rfl, hss, x0⟩ := str_at (hso.below hBj) hs
          obtain ⟨W', hrun, hI', hg'⟩ := hIj.put hs1 (by have := HO.out; unfold maxLen; omega) (s := s) (by unfold Sm at hss; unfold maxLen; omega)
          have hj2' : (j : Int) < (d.ofs.length : Int) := by omega
          have hj3 : (j : Int) ≤ 64 := by have := HO.out; omega
          have HT : Hid ((fun t => (S0 t || (d.ofs.take j).any (fun o => decide (o = t))) || decide (s = t)) = fun t => S0 t || (d.ofs.take (j + 1)).any (fun o => decide (o = t))) := by
            unfold Hid; funext t; rw [take_step hs, List.any_append, Bool.or_assoc]; simp
          clear hs
          gi_wp2
          go_roundw
          case rel => exact ⟨j + 1, by omega, by go_num, hkf.trans (KeepsFrom.of_grownBy hg' (fun k e => by injection e with e; omega)), hbj.grown hg' hBj.size (fun k e => by injection e with e; omega), by have := hI'; rw [HT.out] at this; exact this⟩
          case measure => simp [intOf]; omega
        · obtain rfl : j = d.ofs.length := by omega
          gi_wp2
          refine ⟨by simpa using hkf, hI.keepsBox hIj hbj, ?_⟩
          dsimp only
          rw [HF2.out, hlp]
          have HO' := HO.out
          rw [List.take_length] at hIj
          exact ⟨⟨hIj.c0, hIj.c1, hIj.c2, hIj.m.mono (by omega)⟩, hBj⟩
  case done =>
    rintro D ys W hD rfl ⟨hI, hB⟩ hK
    clear hB2 d0 d1 d2 hM2
    have HL : Hid (kinFold l name (downL l.length) = kinSet l name) := kinFold_all l name
    rw [HL.out] at hI
    have hDl : D < W.heap.size := (Array.getElem?_eq_some_iff.1 hK).1
    have k0 := hI.c0
    have k1 := hI.c1
    have hlc : (l.length : Int) ≤ 64 := by omega
    simp only [World.size_alloc] at hD
    obtain ⟨i0, hi, hz, hz1, hz2⟩ := info_parts str_info
    gi_wp2
    gi_loopw [9, 41] (fun ov i wr => ∃ (k : Nat) (r : List ByteArray), k ≤ l.length ∧ i = .int .i64 k ∧ r.length ≤ k ∧ Below W.heap.size W wr ∧ Own wr W.heap.size 9 1 ov r.length (r.map Value.string) ∧
      Hid (∀ x ∈ r, Sm x) ∧ Hid (kinL l name = r ++ ((l.drop k).filter fun k => kinSet l name k.name).map (·.name))) (fun _ i _ => l.length - (intOf i).toNat)
    case atStart => exact ⟨0, [], Nat.zero_le _, rfl, Nat.le_refl _, Below.refl _ _, Own.nil _ _ _ _, (by intro x hx; simp at hx), rfl⟩
    case round =>
      obtain ⟨k, r, hk, rfl, hrk, hbr, hor, HR, HE⟩ := hrel
      have hBr := hB.trans (hbr.mono hB.size)
      by_cases hk2 : k < l.length
      · obtain ⟨b, o, rfl, hK2⟩ := hf (by omega)
        obtain ⟨c0, c1, c2, hsm, _, _⟩ := (hK2.below hBr).at_ ⟨k, hk2⟩
        obtain ⟨_, _, _, _, hso, hsf⟩ := hK2.at_ ⟨k, hk2⟩
        dsimp only at c0 c1 c2 hsm hso hsf
        have HE2 : Hid (kinL l name = r ++ (if kinSet l name (l[k]'hk2).name then [(l[k]'hk2).name] else []) ++ ((l.drop (k + 1)).filter fun k => kinSet l name k.name).map (·.name)) := by
          unfold Hid
          rw [HE.out, List.drop_eq_getElem_cons hk2, List.filter_cons]
          cases kinSet l name (l[k]'hk2).name <;> simp
        generalize (f ⟨k, hk2⟩).1 = u1 at c1 hso
        generalize (f ⟨k, hk2⟩).2 = u2 at c2 hsf
        generalize l[k]'hk2 = d at *
        obtain ⟨A1, q1, rfl, _, _⟩ := hso.form
        obtain ⟨A2, q2, rfl, _, _⟩ := hsf.form
        have hMr : MapS wr (w.heap.size + 1) (1 + 64 * (downL l.length).length) (kinSet l name) := hI.m.of_block (hbr.block _ hI.m.lt)
        have hlook := (hMr.alloc (.cells #[.string d.name, .slice A1 d.ofs.length q1, .slice A2 d.fields.length q2] 59)).look (s := d.name) (by unfold Sm at hsm; unfold maxLen; omega)
        have m1 := cell_below hbr k1
        have hk2' : (k : Int) < (l.length : Int) := by omega
        have hwr := hbr.size
        have hwr2 : w1.heap.size < wr.heap.size := by have := World.block_lt_of_cell? _ _ m1; simpa using this
        clear hK2 hso hsf hf hv hv0 hMr HE
        cases hS : kinSet l name d.name with
        | true =>
          rw [hS] at hlook
          have HE3 : Hid (kinL l name = (r ++ [d.name]) ++ ((l.drop (k + 1)).filter fun k => kinSet l name k.name).map (·.name)) := by unfold Hid; rw [HE2.out, hS]; simp
          have HR2 : Hid (∀ x ∈ r ++ [d.name], Sm x) := by
            intro x hx
            rcases List.mem_append.1 hx with h | h
            · exact HR.out x h
            · simp at h; subst h; exact hsm
          obtain ⟨Ar, cr, rfl, hrc, hrm⟩ := hor.form
          have hor2 := (hor.alloc (.cells #[.string d.name, .slice A1 d.ofs.length q1, .slice A2 d.fields.length q2] 59)).alloc (.cells #[.string d.name] 9)
          clear hS HE2
          gi_wp2_with (first
            | (gi_at_builtin; refine wpListIn_append_q _ rfl (.tmp 49) (.tmp 52) _ rfl W.heap.size 9 i0 (.string .empty) 1 16 Tryz.underlying45 hi hz hz1 hz2 rfl (by decide) (.slice Ar r.length cr) r.length (r.map Value.string) rfl hor2 (some ⟨wr.heap.size + 1, 0, none⟩) 1 1 [.string d.name] rfl rfl (fun _ => ⟨_, rfl, by simpa using cell_one_new (wr.alloc (.cells #[.string d.name, .slice A1 d.ofs.length q1, .slice A2 d.fields.length q2] 59)) (.string d.name) 9⟩) (by simp [Value.oneCell']) (by unfold maxLen; omega) (by omega) (by simp; omega) ?_; intro v7 w7 hown7 hg7 hat7))
          have hb7 : Below W.heap.size W w7 := ((hbr.alloc hbr.size _).alloc (by simp; omega) _).grown hg7 (by simp; omega) (fun kk hkk => (hor.lt kk hkk).1)
          have ho7 : Own w7 W.heap.size 9 1 v7 (r ++ [d.name]).length ((r ++ [d.name]).map Value.string) := by simpa using hown7
          have hl7 : (r ++ [d.name]).length ≤ k + 1 := by simp; omega
          clear hg7 hat7 hown7
          go_roundw
          case rel => exact ⟨k + 1, r ++ [d.name], by omega, by go_num, hl7, hb7, ho7, HR2, HE3⟩
          case measure => simp [intOf]; omega
        | false =>
          rw [hS] at hlook
          have HE3 : Hid (kinL l name = r ++ ((l.drop (k + 1)).filter fun k => kinSet l name k.name).map (·.name)) := by unfold Hid; rw [HE2.out, hS]; simp
          clear hS HE2
          gi_wp2
          go_roundw
          case rel => exact ⟨k + 1, r, by omega, by go_num, by omega, hbr.alloc hbr.size _, hor.alloc _, HR, HE3⟩
          case measure => simp [intOf]; omega
      · obtain rfl : k = l.length := by omega
        have HQ : Hid (kinL l name = r) := by unfold Hid; rw [HE.out, List.drop_length]; simp
        have hK2 : wr.heap[D]? = some (.deferred (some [])) := (hbr.block D hDl).trans hK
        obtain ⟨Ar, cr, rfl, hrc, hrm⟩ := hor.form
        gi_wp2
        refine ⟨by simp, .inl ⟨_, _, rfl, run_takeDeferred hK2, ?_⟩⟩
        have hBp : Below w.heap.size wr (wr.putObj D (.deferred none)) := (Below.refl _ _).grown (grownBy_putObj' wr D _) hBr.size (fun k e => by injection e with e; omega)
        refine ⟨_, results_tmp rfl _ _ _, _, rfl, ?_, hBr.trans hBp⟩
        rw [HQ.out]
        refine (hor.grown (grownBy_putObj' wr D _) (.inr fun e => ?_)).strs HR.out
        have := (hor.lt D e).1
        omega
  case stop =>
    rintro D c pre W _ _ h _
    exact h.elim
open Go.RowKit

theorem bytes_beq (a b : ByteArray) : (a.toList == b.toList) = decide (a = b) := by
  rw [Bool.eq_iff_iff, beq_iff_eq, decide_eq_true_eq]
  constructor
  · intro h
    rw [ByteArray.toList_eq, ByteArray.toList_eq] at h
    have := Array.toList_inj.1 h
    cases a; cases b; simp at this; rw [this]
  · intro h; rw [h]

set_option maxHeartbeats 400000 in
theorem indexStr_any (l : List ByteArray) (x : ByteArray) (v : Value) (w : World) (hv : Sl strL w v l) :
    Calls Tryz.prog 88 #[v, .string x] w fun e w' => e = .returned (.int .i64 (idxI (fun y => decide (x = y)) l)) ∧ w = w' := by
  obtain ⟨A, c, rfl, hlc, hcm⟩ := hv.form
  unfold maxLen at hcm
  go_enter Tryz.func88, Tryz.ntmps88
  go_wp2_with fail
  go_loop [8] (fun i => ∃ k : Nat, k ≤ l.length ∧ i = .int .i64 k ∧ Hid (∀ j y, j < k → l[j]? = some y → decide (x = y) = false)) (fun i => l.length - (intOf i).toNat)
  case atStart => exact ⟨0, Nat.zero_le _, rfl, fun j x hj => absurd hj (Nat.not_lt_zero _)⟩
  case round =>
    obtain ⟨k, hk, rfl, HA⟩ := hrel
    by_cases hlt : k < l.length
    · obtain ⟨d, hd⟩ : ∃ d, l[k]? = some d := ⟨_, List.getElem?_eq_getElem hlt⟩
      obtain ⟨b, o, rfl, _, hcell⟩ := str_at hv hd
      have HD : Hid (l[k]? = some d) := hd
      clear hd hv
      by_cases hq0 : x = d
      · have hq : decide (x = d) = true := decide_eq_true hq0
        have HE : Hid (idxI (fun y => decide (x = y)) l = k) := idxI_hit HA.out HD.out hq
        clear hq
        subst hq0
        go_wp2_with fail
        go_ret
        exact ⟨by rw [HE.out]; rfl, rfl⟩
      · have hq : decide (x = d) = false := decide_eq_false hq0
        have hqb : (x.toList == d.toList) = false := by rw [bytes_beq]; exact hq
        have HS : Hid (∀ j y, j < k + 1 → l[j]? = some y → decide (x = y) = false) := miss_step HA.out HD.out hq
        go_wp2_with fail
        go_round
        case rel => exact ⟨k + 1, by omega, by go_num, HS⟩
        case measure => simp [intOf]; omega
    · have hkl : k = l.length := by omega
      subst hkl
      have HE : Hid (idxI (fun y => decide (x = y)) l = -1) := idxI_miss HA.out
      clear hv
      go_wp2_with fail
      go_ret
      exact ⟨by rw [HE.out]; rfl, rfl⟩
theorem containsStr_any (l : List ByteArray) (x : ByteArray) (v : Value) (w : World) (hv : Sl strL w v l) :
    Calls Tryz.prog 63 #[v, .string x] w fun e w' => e = .returned (.bool (l.any fun y => decide (x = y))) ∧ w = w' := by
  have h1 := indexStr_any l x v w hv
  have h2 := idxI_any (fun y => decide (x = y)) l
  have H2 := Lib.hid h2
  clear h2 hv
  go_enter Tryz.func63, Tryz.ntmps63
  go_wp2_with (go_at_call 88; refine h1.mono ?_; rintro e w' ⟨rfl, rfl⟩)
  go_ret
  exact ⟨ret_bool H2.out, rfl⟩

/-! ### kind.Find -/
def kndV (_ : World) (d : Knd) (u : Value) : Prop := ∃ a b n c m e, u = .agg #[.string d.name, .slice a n c, .slice b m e]
set_option maxHeartbeats 400000 in
theorem idx_knds (g : Nat) (caps : Array Value) (eg : ∀ args w, (callFunc g args).run Tryz.prog w = .ok (.enter g args) w) (p : Knd → Bool) (l : List (Knd)) (v : Value) (w : World) (hv : Sl kndL w v l)
    (hp : PredB Tryz.prog g caps kndV p w) :
    Calls Tryz.prog 61 #[v, .func (.func g) #[] caps] w fun e w' => e = .returned (.int .i64 (idxI p l)) ∧ Below w.heap.size w w' := by
  obtain ⟨A, c, rfl, hlc, hcm⟩ := hv.form
  unfold maxLen at hcm
  go_enter Tryz.func61, Tryz.ntmps61
  go_wp2_with fail
  go_loopw [8] (fun i wr => ∃ k : Nat, k ≤ l.length ∧ i = .int .i64 k ∧ Below w.heap.size w wr ∧ Hid (∀ j x, j < k → l[j]? = some x → p x = false)) (fun i _ => l.length - (intOf i).toNat)
  case atStart => exact ⟨0, Nat.zero_le _, rfl, Below.refl _ _, fun j x hj => absurd hj (Nat.not_lt_zero _)⟩
  case round =>
    obtain ⟨k, hk, rfl, hb, HA⟩ := hrel
    by_cases hlt : k < l.length
    · obtain ⟨d, hd⟩ : ∃ d, l[k]? = some d := ⟨_, List.getElem?_eq_getElem hlt⟩
      obtain ⟨b, o, rfl, u, x, h1, h2, h3, c0, c1, c2⟩ := knd_at (hv.below hb) hd
      obtain ⟨A1, q1, rfl, _, _⟩ := h2.form
      obtain ⟨A2, q2, rfl, _, _⟩ := h3.form
      have hcall := hp d (.agg #[.string d.name, .slice A1 d.ofs.length q1, .slice A2 d.fields.length q2]) wr hb ⟨A1, A2, _, q1, _, q2, rfl⟩
      clear h2 h3
      have HD : Hid (l[k]? = some d) := hd
      clear hd hp hv
      cases hq : p d with
      | true =>
        rw [hq] at hcall
        have HQ : Hid (p d = true) := hq
        clear hq
        go_wp2_with (go_at_fn g; refine hcall.mono ?_; rintro e w' ⟨rfl, hb2⟩)
        go_ret
        exact ⟨ret_int (idxI_hit HA.out HD.out HQ.out).symm, hb.trans (hb2.mono hb.size)⟩
      | false =>
        rw [hq] at hcall
        have HQ : Hid (p d = false) := hq
        clear hq
        go_wp2_with (go_at_fn g; refine hcall.mono ?_; rintro e w' ⟨rfl, hb2⟩)
        go_roundw
        case rel => exact ⟨k + 1, by omega, by go_num, hb.trans (hb2.mono hb.size), miss_step HA.out HD.out HQ.out⟩
        case measure => simp [intOf]; omega
    · have hkl : k = l.length := by omega
      subst hkl
      clear hp hv
      go_wp2_with fail
      go_ret
      exact ⟨ret_int (idxI_miss HA.out).symm, hb⟩
theorem kFind1_any (d : Knd) (name : ByteArray) (u : Value) (bk : Nat) (w : World) (hu : kndV w d u) (hc : w.cell? ⟨bk, 0, none⟩ = some (.string name)) :
    Calls Tryz.prog 62 #[u, .pointer (some ⟨bk, 0, none⟩)] w fun e w' => e = .returned (.bool (decide (d.name = name))) ∧ Below w.heap.size w w' := by
  obtain ⟨a, b, n, c, m, e, rfl⟩ := hu
  have hlt := World.block_lt_of_cell? _ _ hc
  by_cases hq : d.name = name
  · have hd : decide (d.name = name) = true := decide_eq_true hq
    rw [hd]
    have hqb : (d.name.toList == name.toList) = true := by rw [bytes_beq]; exact hd
    clear hq hd
    go_enter Tryz.func62, Tryz.ntmps62
    go_wp2_with fail
    go_ret
    exact ⟨rfl, (Below.refl _ _).alloc (Nat.le_refl _) _⟩
  · have hd : decide (d.name = name) = false := decide_eq_false hq
    rw [hd]
    have hqb : (d.name.toList == name.toList) = false := by rw [bytes_beq]; exact hd
    clear hq hd
    go_enter Tryz.func62, Tryz.ntmps62
    go_wp2_with fail
    go_ret
    exact ⟨rfl, (Below.refl _ _).alloc (Nat.le_refl _) _⟩
/-- Where a kind of a name is. -/
def kFind (l : List Knd) (name : ByteArray) : Int := idxI (fun k => decide (k.name = name)) l
theorem kFind_any (l : List Knd) (name : ByteArray) (v : Value) (w : World) (hv : Sl kndL w v l) :
    Calls Tryz.prog 42 #[v, .string name] w fun e w' => e = .returned (.int .i64 (kFind l name)) ∧ Below w.heap.size w w' := by
  have hb0 : Below w.heap.size w (w.alloc (.cells #[.string name] 9)) := (Below.refl _ _).alloc (Nat.le_refl _) _
  have h1 := idx_knds 62 #[.pointer (some ⟨w.heap.size, 0, none⟩)] (by intro args w; kernel_rfl) (fun k => decide (k.name = name)) l v _ (hv.below hb0)
    (fun d u wx hx hu => kFind1_any d name u w.heap.size wx hu (cell_below hx (by rw [World.cell?_alloc_at _ _ _ _ rfl]; rfl)))
  obtain ⟨A, c, rfl, _, _⟩ := hv.form
  clear hv
  go_enter Tryz.func42, Tryz.ntmps42
  go_wp2_with fail
  refine h1.mono ?_
  rintro e w2 ⟨rfl, hb2⟩
  go_wp2_with fail
  go_ret
  exact ⟨rfl, hb0.trans (hb2.mono (by simp))⟩
end Go.Proofs.YtfeccicogcnhcaaGreatDoor
