/- Parts: Base, Stir. -/
import Derived.WalkKit
import Derived.WalkSpells
import Derived.WalkLawsBesides
import Derived.ProofKit
import Derived.OpenShut
import Derived.Handy
import Derived.BigQuiet
import Derived.Lib.QuietBelow
import Derived.Lib.Hide
import Derived.RangeFuncNested
/- Plain predicates: how the program's data lie in memory (slices of numbers, texts and structs), and that they stay readable in every later world. No condition. -/
namespace Go.Proofs.YtmbeeaohidgfgaaGreatDoor
open Go.RowKit

/-- The numbers of an int. -/
def I64 (n : Int) : Prop := -9223372036854775808 ≤ n ∧ n ≤ 9223372036854775807
/-- A text that is not too long. -/
def Sm (s : ByteArray) : Prop := s.size ≤ 1048576

/-- How data of one kind lie in cells. -/
structure Lay (D : Type) where
  sz : Nat
  cells : World → D → List Value → Prop
  len : ∀ {w d cs}, cells w d cs → cs.length = sz
  below : ∀ {w w' : World} {d cs}, Below w.heap.size w w' → cells w d cs → cells w' d cs

/-- The slice value v reads as the list l. -/
def Sl {D : Type} (L : Lay D) (w : World) (v : Value) (l : List D) : Prop :=
  ∃ (A : Option Addr) (c : Nat), v = .slice A l.length c ∧ l.length ≤ c ∧ c ≤ maxLen ∧
    ∀ i d, l[i]? = some d → ∃ b o cs, A = some ⟨b, o, none⟩ ∧ L.cells w d cs ∧ ∀ j u, cs[j]? = some u → w.cell? ⟨b, o + (i * L.sz + j), none⟩ = some u

section
variable {D : Type} {L : Lay D} {w w' : World} {v : Value} {l : List D}

theorem cell_below (hb : Below w.heap.size w w') {a : Addr} {u : Value} (h : w.cell? a = some u) : w'.cell? a = some u :=
  (hb.cell (World.block_lt_of_cell? _ _ h)).trans h

theorem Sl.below (hb : Below w.heap.size w w') (h : Sl L w v l) : Sl L w' v l := by
  obtain ⟨A, c, hv, h1, h2, h3⟩ := h
  refine ⟨A, c, hv, h1, h2, fun i d hi => ?_⟩
  obtain ⟨b, o, cs, hA, hc, hx⟩ := h3 i d hi
  exact ⟨b, o, cs, hA, L.below hb hc, fun j u hj => cell_below hb (hx j u hj)⟩

theorem Sl.nil (c : Nat) (hc : c ≤ maxLen) (A : Option Addr) : Sl L w (.slice A 0 c) [] :=
  ⟨A, c, rfl, Nat.zero_le _, hc, fun i d hi => by simp at hi⟩

theorem Sl.form (h : Sl L w v l) : ∃ A c, v = .slice A l.length c ∧ l.length ≤ c ∧ c ≤ maxLen := by
  obtain ⟨A, c, hv, h1, h2, _⟩ := h
  exact ⟨A, c, hv, h1, h2⟩

theorem Sl.all {A : Option Addr} {n c : Nat} (h : Sl L w (.slice A n c) l) (hn : 0 < l.length) :
    ∃ b o, A = some ⟨b, o, none⟩ ∧ ∀ k d, l[k]? = some d → ∃ cs, L.cells w d cs ∧ ∀ j u, cs[j]? = some u → w.cell? ⟨b, o + (k * L.sz + j), none⟩ = some u := by
  obtain ⟨A', c', hv, h1, h2, h3⟩ := h
  injection hv with hA _ _
  subst hA
  obtain ⟨b, o, cs, hA, _, _⟩ := h3 0 _ (List.getElem?_eq_getElem hn)
  refine ⟨b, o, hA, fun k d hk => ?_⟩
  obtain ⟨b', o', cs, hA', hc, hx⟩ := h3 k d hk
  rw [hA] at hA'
  injection hA' with e
  injection e with e1 e2
  subst e1; subst e2
  exact ⟨cs, hc, hx⟩
theorem len_pos {k : Nat} {d : D} (hk : l[k]? = some d) : 0 < l.length := by have := (List.getElem?_eq_some_iff.1 hk).1; omega
end

/-- Slices as elements. -/
def slL {D : Type} (L : Lay D) : Lay (List D) where
  sz := 1
  cells w l cs := ∃ v, cs = [v] ∧ Sl L w v l
  len h := by obtain ⟨v, rfl, _⟩ := h; rfl
  below hb h := by obtain ⟨v, rfl, h⟩ := h; exact ⟨v, rfl, h.below hb⟩

/-- Data whose cells hang on the data alone. -/
def flatL {D : Type} (n : Nat) (ok : D → Prop) (enc : D → List Value) (hn : ∀ d, (enc d).length = n) : Lay D where
  sz := n
  cells _ d cs := cs = enc d ∧ ok d
  len h := by rw [h.1, hn]
  below _ h := h

def intL : Lay Int := flatL 1 I64 (fun n => [.int .i64 n]) (fun _ => rfl)
def byteL : Lay UInt8 := flatL 1 (fun _ => True) (fun b => [.int .u8 b.toNat]) (fun _ => rfl)
def strL : Lay ByteArray := flatL 1 Sm (fun s => [.string s]) (fun _ => rfl)

/-! ### The program's structs -/
structure Val where
  ty : Int
  n : Int
  s : ByteArray
  deriving DecidableEq
structure Prp where
  name : ByteArray
  v : Val
  deriving DecidableEq
structure Nod where
  id : Int
  kind : ByteArray
  props : List Prp
  deriving DecidableEq
structure Tie where
  bond : ByteArray
  src : Int
  dst : Int
  deriving DecidableEq
structure Grf where
  nodes : List Nod
  ties : List Tie
  deriving DecidableEq
def Val.ok (v : Val) : Prop := I64 v.ty ∧ I64 v.n ∧ Sm v.s
def Val.enc (v : Val) : List Value := [.int .i64 v.ty, .int .i64 v.n, .string v.s]
def Prp.ok (p : Prp) : Prop := Sm p.name ∧ p.v.ok
def Prp.enc (p : Prp) : List Value := [.string p.name, .int .i64 p.v.ty, .int .i64 p.v.n, .string p.v.s]
def Tie.ok (t : Tie) : Prop := Sm t.bond ∧ I64 t.src ∧ I64 t.dst
def Tie.enc (t : Tie) : List Value := [.string t.bond, .int .i64 t.src, .int .i64 t.dst]

def valL : Lay Val := flatL 3 Val.ok Val.enc (fun _ => rfl)
def prpL : Lay Prp := flatL 4 Prp.ok Prp.enc (fun _ => rfl)
def tieL : Lay Tie := flatL 3 Tie.ok Tie.enc (fun _ => rfl)
def nodL : Lay Nod where
  sz := 3
  cells w d cs := ∃ v, cs = [.int .i64 d.id, .string d.kind, v] ∧ I64 d.id ∧ Sm d.kind ∧ Sl prpL w v d.props
  len h := by obtain ⟨v, rfl, _⟩ := h; rfl
  below hb h := by obtain ⟨v, rfl, h1, h2, h⟩ := h; exact ⟨v, rfl, h1, h2, h.below hb⟩
/-- A graph's value: two slices. -/
def GrfR (w : World) (v u : Value) (g : Grf) : Prop := Sl nodL w v g.nodes ∧ Sl tieL w u g.ties
theorem GrfR.below {w w' : World} {v u : Value} {g : Grf} (hb : Below w.heap.size w w') (h : GrfR w v u g) : GrfR w' v u g := ⟨h.1.below hb, h.2.below hb⟩
/-! ### An element, cell by cell, as the walk spells it -/
section
variable {w : World} {A : Option Addr} {k n c : Nat}
theorem str_all {l : List ByteArray} (h : Sl strL w (.slice A n c) l) (hn : 0 < l.length) :
    ∃ b o, A = some ⟨b, o, none⟩ ∧ ∀ k d, l[k]? = some d → Sm d ∧ w.cell? ⟨b, o + k, none⟩ = some (.string d) := by
  obtain ⟨b, o, hA, hall⟩ := h.all hn
  refine ⟨b, o, hA, fun k d hk => ?_⟩
  obtain ⟨cs, ⟨rfl, ok⟩, hx⟩ := hall k d hk
  exact ⟨ok, by simpa [strL, flatL] using hx 0 _ rfl⟩
theorem str_at {l : List ByteArray} (h : Sl strL w (.slice A n c) l) {d : ByteArray} (hk : l[k]? = some d) :
    ∃ b o, A = some ⟨b, o, none⟩ ∧ Sm d ∧ w.cell? ⟨b, o + k, none⟩ = some (.string d) := by
  obtain ⟨b, o, hA, hall⟩ := str_all h (len_pos hk)
  exact ⟨b, o, hA, hall k d hk⟩
theorem int_all {l : List Int} (h : Sl intL w (.slice A n c) l) (hn : 0 < l.length) :
    ∃ b o, A = some ⟨b, o, none⟩ ∧ ∀ k d, l[k]? = some d → I64 d ∧ w.cell? ⟨b, o + k, none⟩ = some (.int .i64 d) := by
  obtain ⟨b, o, hA, hall⟩ := h.all hn
  refine ⟨b, o, hA, fun k d hk => ?_⟩
  obtain ⟨cs, ⟨rfl, ok⟩, hx⟩ := hall k d hk
  exact ⟨ok, by simpa [intL, flatL] using hx 0 _ rfl⟩
theorem int_at {l : List Int} (h : Sl intL w (.slice A n c) l) {d : Int} (hk : l[k]? = some d) :
    ∃ b o, A = some ⟨b, o, none⟩ ∧ I64 d ∧ w.cell? ⟨b, o + k, none⟩ = some (.int .i64 d) := by
  obtain ⟨b, o, hA, hall⟩ := int_all h (len_pos hk)
  exact ⟨b, o, hA, hall k d hk⟩
theorem byte_all {l : List UInt8} (h : Sl byteL w (.slice A n c) l) (hn : 0 < l.length) :
    ∃ b o, A = some ⟨b, o, none⟩ ∧ ∀ k d, l[k]? = some d → w.cell? ⟨b, o + k, none⟩ = some (.int .u8 d.toNat) := by
  obtain ⟨b, o, hA, hall⟩ := h.all hn
  refine ⟨b, o, hA, fun k d hk => ?_⟩
  obtain ⟨cs, ⟨rfl, ok⟩, hx⟩ := hall k d hk
  simpa [byteL, flatL] using hx 0 _ rfl
theorem byte_at {l : List UInt8} (h : Sl byteL w (.slice A n c) l) {d : UInt8} (hk : l[k]? = some d) :
    ∃ b o, A = some ⟨b, o, none⟩ ∧ w.cell? ⟨b, o + k, none⟩ = some (.int .u8 d.toNat) := by
  obtain ⟨b, o, hA, hall⟩ := byte_all h (len_pos hk)
  exact ⟨b, o, hA, hall k d hk⟩
theorem prp_all {l : List Prp} (h : Sl prpL w (.slice A n c) l) (hn : 0 < l.length) :
    ∃ b o, A = some ⟨b, o, none⟩ ∧ ∀ k d, l[k]? = some d → d.ok ∧ w.cell? ⟨b, o + k * 4, none⟩ = some (.string d.name) ∧ w.cell? ⟨b, o + k * 4 + 1, none⟩ = some (.int .i64 d.v.ty) ∧ w.cell? ⟨b, o + k * 4 + 2, none⟩ = some (.int .i64 d.v.n) ∧ w.cell? ⟨b, o + k * 4 + 3, none⟩ = some (.string d.v.s) := by
  obtain ⟨b, o, hA, hall⟩ := h.all hn
  refine ⟨b, o, hA, fun k d hk => ?_⟩
  obtain ⟨cs, ⟨rfl, ok⟩, hx⟩ := hall k d hk
  exact ⟨ok, hx 0 _ rfl, hx 1 _ rfl, hx 2 _ rfl, hx 3 _ rfl⟩
theorem prp_at {l : List Prp} (h : Sl prpL w (.slice A n c) l) {d : Prp} (hk : l[k]? = some d) :
    ∃ b o, A = some ⟨b, o, none⟩ ∧ d.ok ∧ w.cell? ⟨b, o + k * 4, none⟩ = some (.string d.name) ∧ w.cell? ⟨b, o + k * 4 + 1, none⟩ = some (.int .i64 d.v.ty) ∧ w.cell? ⟨b, o + k * 4 + 2, none⟩ = some (.int .i64 d.v.n) ∧ w.cell? ⟨b, o + k * 4 + 3, none⟩ = some (.string d.v.s) := by
  obtain ⟨b, o, hA, hall⟩ := prp_all h (len_pos hk)
  exact ⟨b, o, hA, hall k d hk⟩
theorem tie_all {l : List Tie} (h : Sl tieL w (.slice A n c) l) (hn : 0 < l.length) :
    ∃ b o, A = some ⟨b, o, none⟩ ∧ ∀ k d, l[k]? = some d → d.ok ∧ w.cell? ⟨b, o + k * 3, none⟩ = some (.string d.bond) ∧ w.cell? ⟨b, o + k * 3 + 1, none⟩ = some (.int .i64 d.src) ∧ w.cell? ⟨b, o + k * 3 + 2, none⟩ = some (.int .i64 d.dst) := by
  obtain ⟨b, o, hA, hall⟩ := h.all hn
  refine ⟨b, o, hA, fun k d hk => ?_⟩
  obtain ⟨cs, ⟨rfl, ok⟩, hx⟩ := hall k d hk
  exact ⟨ok, hx 0 _ rfl, hx 1 _ rfl, hx 2 _ rfl⟩
theorem tie_at {l : List Tie} (h : Sl tieL w (.slice A n c) l) {d : Tie} (hk : l[k]? = some d) :
    ∃ b o, A = some ⟨b, o, none⟩ ∧ d.ok ∧ w.cell? ⟨b, o + k * 3, none⟩ = some (.string d.bond) ∧ w.cell? ⟨b, o + k * 3 + 1, none⟩ = some (.int .i64 d.src) ∧ w.cell? ⟨b, o + k * 3 + 2, none⟩ = some (.int .i64 d.dst) := by
  obtain ⟨b, o, hA, hall⟩ := tie_all h (len_pos hk)
  exact ⟨b, o, hA, hall k d hk⟩
theorem nod_all {l : List Nod} (h : Sl nodL w (.slice A n c) l) (hn : 0 < l.length) :
    ∃ b o, A = some ⟨b, o, none⟩ ∧ ∀ k d, l[k]? = some d → ∃ u, I64 d.id ∧ Sm d.kind ∧ Sl prpL w u d.props ∧ w.cell? ⟨b, o + k * 3, none⟩ = some (.int .i64 d.id) ∧ w.cell? ⟨b, o + k * 3 + 1, none⟩ = some (.string d.kind) ∧ w.cell? ⟨b, o + k * 3 + 2, none⟩ = some u := by
  obtain ⟨b, o, hA, hall⟩ := h.all hn
  refine ⟨b, o, hA, fun k d hk => ?_⟩
  obtain ⟨cs, ⟨u, rfl, e1, e2, ok⟩, hx⟩ := hall k d hk
  exact ⟨u, e1, e2, ok, hx 0 _ rfl, hx 1 _ rfl, hx 2 _ rfl⟩
theorem nod_at {l : List Nod} (h : Sl nodL w (.slice A n c) l) {d : Nod} (hk : l[k]? = some d) :
    ∃ b o, A = some ⟨b, o, none⟩ ∧ ∃ u, I64 d.id ∧ Sm d.kind ∧ Sl prpL w u d.props ∧ w.cell? ⟨b, o + k * 3, none⟩ = some (.int .i64 d.id) ∧ w.cell? ⟨b, o + k * 3 + 1, none⟩ = some (.string d.kind) ∧ w.cell? ⟨b, o + k * 3 + 2, none⟩ = some u := by
  obtain ⟨b, o, hA, hall⟩ := nod_all h (len_pos hk)
  exact ⟨b, o, hA, hall k d hk⟩
end

/-- A new row of ints. -/
theorem sl_ints {W : World} {b : Nat} {t : TypeId} {fr : Nat × Nat} (l : List Int) (hl : ∀ x ∈ l, I64 x) (c : Nat) (h1 : l.length ≤ c) (h2 : c ≤ maxLen) (h : W.heap[b]? = some (.cells (l.map (Value.int .i64)).toArray t fr)) : Sl intL W (.slice (some ⟨b, 0, none⟩) l.length c) l := by
  refine ⟨_, c, rfl, h1, h2, fun i d hi => ⟨b, 0, _, rfl, ⟨rfl, hl d (List.mem_of_getElem? hi)⟩, fun j u hj => ?_⟩⟩
  rw [cell_of_row W b _ _ t fr h]
  match j, hj with
  | 0, hj =>
    simp at hj
    subst hj
    simp [intL, flatL, hi]

/-! ### Small words for walks -/
theorem ret_int {k : IntKind} {a b : Int} (h : a = b) : Ending.returned (.int k a) = .returned (.int k b) := by rw [h]
theorem ret_bool {a b : Bool} (h : a = b) : Ending.returned (.bool a) = .returned (.bool b) := by rw [h]

/-- Old cells and marks read as before. -/
theorem bcell {W w1 : World} (hb : Below W.heap.size W w1) : (∀ b o, b < W.heap.size → w1.cell? ⟨b, o, none⟩ = W.cell? ⟨b, o, none⟩) ∧ (∀ b o, b < W.heap.size → w1.frozen? ⟨b, o, none⟩ = W.frozen? ⟨b, o, none⟩) :=
  ⟨fun b o h => hb.cell (p := ⟨b, o, none⟩) h, fun b o h => hb.frozen (p := ⟨b, o, none⟩) h⟩

/-- An error's value: 0 is nil. -/
def errV (k : Int) : Value := if k = 0 then .nilIface else .iface 74 (.int .i64 k)
theorem errV_zero {k : Int} (h : k = 0) : errV k = .nilIface := by simp [errV, h]
theorem errV_some {k : Int} (h : k ≠ 0) : errV k = .iface 74 (.int .i64 k) := by simp [errV, h]
open Go Go.RowKit

section
variable {F : Fence} {n : Nat} {P : Program} {α : Type}

/-- What the steps of R leave true. -/
def Stands {β : Type} (R : World → World → Prop) (J : β → World → Prop) : Prop := ∀ s X Y, J s X → R X Y → J s Y
/-- The iterator hands its elements over one by one; between the rounds it takes steps of R; a round must keep Kp; S tells what it has handed over at its end, Sp where it was stopped. -/
def Stirs (F : Fence) (n : Nat) (P : Program) (g : Nat) (lb : Array Value) (encs : α → Array Value) (Kp R : World → World → Prop) (S Sp : List α → Prop) (w : World) : Prop :=
  ∀ (l : Nat) (J Jx : List α → World → Prop) (W : World), Below w.heap.size w W → Stands R J → Stands R Jx →
    (∀ pre x W1, Sp (pre ++ [x]) → J pre W1 → YieldAt F (n - 1) P l (encs x) W1 fun e W' => (e = .returned (.bool true) ∧ J (pre ++ [x]) W' ∧ Kp W1 W') ∨ (e = .returned (.bool false) ∧ Jx (pre ++ [x]) W')) →
    J [] W → CallsIn F n P g (#[.func (.yield l) #[] #[]] ++ lb) W fun e W' => (∃ v, e = .returned v) ∧ ((∃ xs, S xs ∧ J xs W') ∨ (∃ pre, Sp pre ∧ Jx pre W'))

/-- The record of the loop, and the block of its deferred calls, as they lie at b + 1 and b. -/
def Recd (b : Nat) (r : Loop) (W : World) : Prop := W.heap[b + 1]? = some (.loop r) ∧ W.heap[b]? = some (.deferred (some []))
theorem Recd.put {b : Nat} {r r' : Loop} {W : World} (h : Recd b r W) : Recd b r' (W.putObj (b + 1) (.loop r')) :=
  ⟨World.putObj_heap_same (Array.getElem?_eq_some_iff.1 h.1).1, (World.putObj_heap_other (by omega)).trans h.2⟩
theorem Recd.keeps {b : Nat} {r : Loop} {W W' : World} (h : Recd b r W) (hk : KeepsFrom b W W') : Recd b r W' := ⟨hk.same _ _ (by omega) h.1 rfl, hk.same _ _ (Nat.le_refl _) h.2 rfl⟩
theorem Recd.step {b : Nat} {r : Loop} {W W' : World} (h : Recd b r W) (hk : ∀ (k : Nat) (o : Obj), b ≤ k → W.heap[k]? = some o → o.isCells = false → W'.heap[k]? = some o) : Recd b r W' := ⟨hk _ _ (by omega) h.1 rfl, hk _ _ (Nat.le_refl _) h.2 rfl⟩

set_option maxHeartbeats 400000 in
theorem wpIn_rangeFunc_stirs {g : Operand} {ps : Array Tmp} {assign body : Code} {Q : Exit → Act → World → Prop} {a : Act} {w : World}
    (hro : F.round = none) (h1 : 1 ≤ n) {gf : Nat} {lb : Array Value} (hg : a.eval g = .func (.func gf) #[] lb) (hFg : F.fn gf) (eg : ∀ args w, (callFunc gf args).run P w = .ok (.enter gf args) w)
    {encs : α → Array Value} {Kp R : World → World → Prop} {S Sp : List α → Prop} {w0 : World} (hseq : Stirs F (n - 1) P gf lb encs Kp R S Sp w0) (hb0 : Below w0.heap.size w0 w)
    (hKt : ∀ {A B C : World}, Kp A B → Kp B C → Kp A C) (hKb : ∀ (W : World) (l : Nat) (o o' : Obj), w.heap.size ≤ l → W.heap[l]? = some o → o.isCells = false → o.isWalk = false → Kp W (W.putObj l o'))
    (hRk : ∀ X Y, R X Y → ∀ (k : Nat) (o : Obj), w.heap.size ≤ k → X.heap[k]? = some o → o.isCells = false → Y.heap[k]? = some o) (hps : ∀ x, (encs x).size = ps.size)
    (I : List α → World → Prop) (Ix : Code → List α → World → Prop) (hI : OwnFrom w.heap.size I) (hIR : Stands R I) (hIx : ∀ c, OwnFrom w.heap.size (Ix c)) (hIxR : ∀ c, Stands R (Ix c)) (h0 : I [] w) (a₁ : α → Act)
    (hassign : ∀ (l : Nat) (x : α) (W : World) (K : Act → World → Prop), K (a₁ x) W →
      assign.wpIn (F.inRound l) (n - 1 - 1) P (Exit.then K (fun _ _ _ => False)) { tmps := (ps.zip (encs x)).foldl (fun t (p, v) => t.setIfInBounds p v) a.tmps, defers := [] } W)
    (hbody : ∀ (l : Nat) (pre : List α) (x : α) (W : World), Sp (pre ++ [x]) → I pre W → body.wpIn (F.inRound l) (n - 1 - 1) P (ownPostG w.heap.size Kp I Ix (pre ++ [x]) W) (a₁ x) W)
    (hdone : ∀ (D : Nat) (xs : List α) (W : World), w.heap.size ≤ D → S xs → I xs W → W.heap[D]? = some (.deferred (some [])) → Q .normal { a with defers := { target := .collected D, args := #[] } :: a.defers } W)
    (hstop : ∀ (D : Nat) (c : Code) (pre : List α) (W : World), w.heap.size ≤ D → Sp pre → Ix c pre W → W.heap[D]? = some (.deferred (some [])) → c.wpIn F n P Q { a with defers := { target := .collected D, args := #[] } :: a.defers } W) :
    (Code.rangeFunc g ps assign body).wpIn F n P Q a w := by
  refine wpIn_rangeFunc fun fn hfn => ?_
  rw [hro]
  obtain ⟨mk, hmk⟩ : ∃ mk : LoopState → Option Code → Loop, mk = fun st pe => { state := st, pending := pe, fn, tmps := a.tmps, params := ps, assign, body, defers := w.heap.size } := ⟨_, rfl⟩
  obtain ⟨V, hV⟩ : ∃ V, V = (w.alloc (.deferred (some []))).alloc (.loop (mk .ready none)) := ⟨_, rfl⟩
  have hIV : I [] V := by rw [hV]; exact hI.alloc _ (hI.alloc _ h0)
  have hwV : Below w.heap.size w V := by rw [hV]; exact ((Below.refl _ w).alloc (Nat.le_refl _) _).alloc (by simp) _
  have hrV : Recd w.heap.size (mk .ready none) V := by
    rw [hV]
    refine ⟨?_, (Below.heap_alloc _ _ _ (by simp)).trans (World.alloc_heap_new w _)⟩
    have := World.alloc_heap_new (w.alloc (.deferred (some []))) (.loop (mk .ready none))
    rwa [World.size_alloc] at this
  -- one round
  have round : ∀ (pre : List α) (x : α) (W : World), Sp (pre ++ [x]) → I pre W → Recd w.heap.size (mk .ready none) W →
      YieldAt F (n - 1 - 1) P (w.heap.size + 1) (encs x) W fun e W' => (e = .returned (.bool true) ∧ (I (pre ++ [x]) W' ∧ Recd w.heap.size (mk .ready none) W') ∧ Kp W W') ∨ (e = .returned (.bool false) ∧ ∃ c, Ix c (pre ++ [x]) W' ∧ Recd w.heap.size (mk .done (some c)) W') := by
    intro pre x W hsp hi hr
    have hy := run_yield (P := P) (args := encs x) hr.1 (by rw [hmk]; exact hps x)
    rw [hmk] at hy
    have hbeg := run_beginRound (P := P) hr.1 (by rw [hmk])
    have hbusy : Recd w.heap.size (mk .busy none) (W.putObj (w.heap.size + 1) (.loop (mk .busy none))) := hr.put
    have hbe : ({ mk .ready none with state := .busy } : Loop) = mk .busy none := by rw [hmk]
    rw [hbe] at hbeg
    have hkp := hKb W (w.heap.size + 1) _ (.loop (mk .busy none)) (by omega) hr.1 rfl rfl
    -- a round's end, by a jump or none
    have close : ∀ (jump : Option Code) (st : LoopState), (if jump.isNone then LoopState.ready else .done) = st → ∀ Z, Recd w.heap.size (mk .busy none) Z → (Instr.endRound (w.heap.size + 1) jump).run P Z = .ok (.bool jump.isNone) (Z.putObj (w.heap.size + 1) (.loop (mk st jump))) ∧ Recd w.heap.size (mk st jump) (Z.putObj (w.heap.size + 1) (.loop (mk st jump))) := by
      intro jump st hst Z hz
      have he := run_endRound (P := P) jump hz.1
      have hee : ({ mk .busy none with state := if jump.isNone then .ready else .done, pending := jump } : Loop) = mk st jump := by rw [hmk, ← hst]
      rw [hee] at he
      exact ⟨he, hz.put⟩
    have leave : ∀ (c : Code) (Z : World), KeepsFrom w.heap.size (W.putObj (w.heap.size + 1) (.loop (mk .busy none))) Z → Ix c (pre ++ [x]) Z → ∃ v Z', (Instr.endRound (w.heap.size + 1) (some c)).run P Z = .ok v Z' ∧ v = .bool false ∧ ∃ c, Ix c (pre ++ [x]) Z' ∧ Recd w.heap.size (mk .done (some c)) Z' := by
      intro c Z hk hx
      have hz := hbusy.keeps hk
      obtain ⟨he, hz'⟩ := close (some c) .done rfl Z hz
      exact ⟨_, _, he, rfl, c, (hIx c).putObj _ hx (by omega) hz.1 rfl, hz'⟩
    refine ⟨fn, _, assign, body, hy, roundIn_of_wpIn hfn (hassign _ x W _ ⟨_, hbeg, wpIn_mono (hbody _ pre x _ hsp (hI.putObj _ hi (by omega) hr.1 rfl)) ?_⟩)⟩
    intro e a3 Z hp
    cases e with
    | normal =>
      obtain ⟨hk, hkz, hiz⟩ := hp
      have hz := hbusy.keeps hk
      obtain ⟨he, hz'⟩ := close none .ready rfl Z hz
      exact ⟨_, _, he, .inl ⟨rfl, ⟨hI.putObj _ hiz (by omega) hz.1 rfl, hz'⟩, hKt (hKt hkp hkz) (hKb Z (w.heap.size + 1) _ _ (by omega) hz.1 rfl rfl)⟩⟩
    | ret => obtain ⟨v, Z', he, rfl, hx⟩ := leave .ret Z hp.1 hp.2; exact ⟨_, _, he, .inr ⟨rfl, hx⟩⟩
    | exit id => obtain ⟨v, Z', he, rfl, hx⟩ := leave (.exit id) Z hp.1 hp.2; exact ⟨_, _, he, .inr ⟨rfl, hx⟩⟩
    | goto t => obtain ⟨v, Z', he, rfl, hx⟩ := leave (.goto t) Z hp.1 hp.2; exact ⟨_, _, he, .inr ⟨rfl, hx⟩⟩
    | panic ch => exact hp.elim
    | outgrown => exact hp.elim
  have hcall := hseq (w.heap.size + 1) (fun pre W => I pre W ∧ Recd w.heap.size (mk .ready none) W) (fun pre W => ∃ c, Ix c pre W ∧ Recd w.heap.size (mk .done (some c)) W) V
    (hb0.trans (hwV.mono hb0.size)) (fun s X Y hs hr => ⟨hIR s X Y hs.1 hr, hs.2.step (hRk X Y hr)⟩) (fun s X Y ⟨c, h1, h2⟩ hr => ⟨c, hIxR c s X Y h1 hr, h2.step (hRk X Y hr)⟩)
    (fun pre x W hsp hj => round pre x W hsp hj.1 hj.2) ⟨hIV, hrV⟩
  refine ⟨w.heap.size + 1, [{ target := .collected w.heap.size, args := #[] }], V, { target := .fn (.func gf) lb, args := #[.func (.yield (w.heap.size + 1)) #[] #[]] }, V, gf, #[.func (.yield (w.heap.size + 1)) #[] #[]] ++ lb, V, ?_, ?_, ?_, ?_, fun _ => h1, ?_⟩
  · rw [hV, hmk]; exact run_enterLoop_outer _ _ _ _ _
  · simp only [resolve, hg]; simp [go_sem]
  · intro f' hf'
    simp [Target.leads] at hf'
    subst hf'; exact hFg
  · simp [invoke, go_sem, eg]
  · -- behind the iterator
    refine hcall.mono ?_
    have shut : ∀ (r : Loop), r.state ≠ .busy → ∀ Z, Recd w.heap.size r Z → (Instr.endLoop (w.heap.size + 1)).run P Z = .ok r.pending (Z.putObj (w.heap.size + 1) (.loop { r with state := .exhausted })) := fun r hb Z hz => run_endLoop hz.1 hb
    rintro e Z ⟨⟨v, rfl⟩, ⟨xs, hS, hi, hz⟩ | ⟨pre, hSp, c, hx, hz⟩⟩
    · exact ⟨none, _, by have := shut _ (by rw [hmk]; simp) Z hz; rw [hmk] at this; exact this, hdone _ xs _ (Nat.le_refl _) hS (hI.putObj _ hi (by omega) hz.1 rfl) ((World.putObj_heap_other (by omega)).trans hz.2)⟩
    · exact ⟨some c, _, by have := shut _ (by rw [hmk]; simp) Z hz; rw [hmk] at this; exact this, hstop _ c pre _ (Nat.le_refl _) hSp ((hIx c).putObj _ hx (by omega) hz.1 rfl) ((World.putObj_heap_other (by omega)).trans hz.2)⟩
end
end Go.Proofs.YtmbeeaohidgfgaaGreatDoor
