/- Parts: Base, ValA, ValB, RecA, RecB. -/
import Derived.WalkKit
import Derived.WalkSpells
import Derived.WalkLawsBesides
import Derived.ProofKit
import Derived.OpenShut
import Derived.Handy
import Derived.BigQuiet
import Derived.Lib.QuietBelow
import Derived.Lib.Hide
import Derived.Test.YtngbbefpphinjaaGreatDoorRows
import Derived.Deep.LoopGhost
import Derived.Shelf.GgClosure.Gives
import Derived.Lib.ConvBytes
/- Plain predicates: how the program's data lie in memory (slices of numbers, texts and structs), and that they stay readable in every later world. No condition. -/
namespace Go.Proofs.YtngbbefpphinjaaGreatDoor
open Go.RowKit

/-- The numbers of an int. -/
def I64 (n : Int) : Prop := -9223372036854775808 ≤ n ∧ n ≤ 9223372036854775807
/-- A text that is not too long. -/
def Sm (s : ByteArray) : Prop := s.size ≤ 1048576

/-- How data of one kind lie in cells. -/
structure Lay (D : Type) where
  sz : Nat
  cells : World → D → List Value → Prop
  len : ∀ {w d cs}, cells w d cs → cs.length = sz
  below : ∀ {w w' : World} {d cs}, Below w.heap.size w w' → cells w d cs → cells w' d cs

/-- The slice value v reads as the list l. -/
def Sl {D : Type} (L : Lay D) (w : World) (v : Value) (l : List D) : Prop :=
  ∃ (A : Option Addr) (c : Nat), v = .slice A l.length c ∧ l.length ≤ c ∧ c ≤ maxLen ∧
    ∀ i d, l[i]? = some d → ∃ b o cs, A = some ⟨b, o, none⟩ ∧ L.cells w d cs ∧ ∀ j u, cs[j]? = some u → w.cell? ⟨b, o + (i * L.sz + j), none⟩ = some u

section
variable {D : Type} {L : Lay D} {w w' : World} {v : Value} {l : List D}

theorem cell_below (hb : Below w.heap.size w w') {a : Addr} {u : Value} (h : w.cell? a = some u) : w'.cell? a = some u :=
  (hb.cell (World.block_lt_of_cell? _ _ h)).trans h

theorem Sl.below (hb : Below w.heap.size w w') (h : Sl L w v l) : Sl L w' v l := by
  obtain ⟨A, c, hv, h1, h2, h3⟩ := h
  refine ⟨A, c, hv, h1, h2, fun i d hi => ?_⟩
  obtain ⟨b, o, cs, hA, hc, hx⟩ := h3 i d hi
  exact ⟨b, o, cs, hA, L.below hb hc, fun j u hj => cell_below hb (hx j u hj)⟩

theorem Sl.nil (c : Nat) (hc : c ≤ maxLen) (A : Option Addr) : Sl L w (.slice A 0 c) [] :=
  ⟨A, c, rfl, Nat.zero_le _, hc, fun i d hi => by simp at hi⟩

theorem Sl.form (h : Sl L w v l) : ∃ A c, v = .slice A l.length c ∧ l.length ≤ c ∧ c ≤ maxLen := by
  obtain ⟨A, c, hv, h1, h2, _⟩ := h
  exact ⟨A, c, hv, h1, h2⟩

theorem Sl.all {A : Option Addr} {n c : Nat} (h : Sl L w (.slice A n c) l) (hn : 0 < l.length) :
    ∃ b o, A = some ⟨b, o, none⟩ ∧ ∀ k d, l[k]? = some d → ∃ cs, L.cells w d cs ∧ ∀ j u, cs[j]? = some u → w.cell? ⟨b, o + (k * L.sz + j), none⟩ = some u := by
  obtain ⟨A', c', hv, h1, h2, h3⟩ := h
  injection hv with hA _ _
  subst hA
  obtain ⟨b, o, cs, hA, _, _⟩ := h3 0 _ (List.getElem?_eq_getElem hn)
  refine ⟨b, o, hA, fun k d hk => ?_⟩
  obtain ⟨b', o', cs, hA', hc, hx⟩ := h3 k d hk
  rw [hA] at hA'
  injection hA' with e
  injection e with e1 e2
  subst e1; subst e2
  exact ⟨cs, hc, hx⟩
theorem len_pos {k : Nat} {d : D} (hk : l[k]? = some d) : 0 < l.length := by have := (List.getElem?_eq_some_iff.1 hk).1; omega
end

/-- Slices as elements. -/
def slL {D : Type} (L : Lay D) : Lay (List D) where
  sz := 1
  cells w l cs := ∃ v, cs = [v] ∧ Sl L w v l
  len h := by obtain ⟨v, rfl, _⟩ := h; rfl
  below hb h := by obtain ⟨v, rfl, h⟩ := h; exact ⟨v, rfl, h.below hb⟩

/-- Data whose cells hang on the data alone. -/
def flatL {D : Type} (n : Nat) (ok : D → Prop) (enc : D → List Value) (hn : ∀ d, (enc d).length = n) : Lay D where
  sz := n
  cells _ d cs := cs = enc d ∧ ok d
  len h := by rw [h.1, hn]
  below _ h := h

def intL : Lay Int := flatL 1 I64 (fun n => [.int .i64 n]) (fun _ => rfl)
def byteL : Lay UInt8 := flatL 1 (fun _ => True) (fun b => [.int .u8 b.toNat]) (fun _ => rfl)
def strL : Lay ByteArray := flatL 1 Sm (fun s => [.string s]) (fun _ => rfl)

/-! ### The program's structs -/
structure Val where
  ty : Int
  n : Int
  s : ByteArray
  deriving DecidableEq
structure Prp where
  name : ByteArray
  v : Val
  deriving DecidableEq
structure Fld where
  name : ByteArray
  ty : Int
  must : Bool
  key : Bool
  deriving DecidableEq
structure Knd where
  name : ByteArray
  ofs : List ByteArray
  fields : List Fld
  deriving DecidableEq
structure Bnd where
  name : ByteArray
  src : ByteArray
  dst : ByteArray
  mn : Int
  mx : Int
  deriving DecidableEq
structure Nod where
  id : Int
  kind : ByteArray
  props : List Prp
  deriving DecidableEq
structure Tie where
  bond : ByteArray
  src : Int
  dst : Int
  deriving DecidableEq
structure Grf where
  nodes : List Nod
  ties : List Tie
  deriving DecidableEq
def Val.ok (v : Val) : Prop := I64 v.ty ∧ I64 v.n ∧ Sm v.s
def Val.enc (v : Val) : List Value := [.int .i64 v.ty, .int .i64 v.n, .string v.s]
def Prp.ok (p : Prp) : Prop := Sm p.name ∧ p.v.ok
def Prp.enc (p : Prp) : List Value := [.string p.name, .int .i64 p.v.ty, .int .i64 p.v.n, .string p.v.s]
def Fld.ok (f : Fld) : Prop := Sm f.name ∧ I64 f.ty
def Fld.enc (f : Fld) : List Value := [.string f.name, .int .i64 f.ty, .bool f.must, .bool f.key]
def Bnd.ok (b : Bnd) : Prop := Sm b.name ∧ Sm b.src ∧ Sm b.dst ∧ I64 b.mn ∧ I64 b.mx
def Bnd.enc (b : Bnd) : List Value := [.string b.name, .string b.src, .string b.dst, .int .i64 b.mn, .int .i64 b.mx]
def Tie.ok (t : Tie) : Prop := Sm t.bond ∧ I64 t.src ∧ I64 t.dst
def Tie.enc (t : Tie) : List Value := [.string t.bond, .int .i64 t.src, .int .i64 t.dst]

def valL : Lay Val := flatL 3 Val.ok Val.enc (fun _ => rfl)
def prpL : Lay Prp := flatL 4 Prp.ok Prp.enc (fun _ => rfl)
def tieL : Lay Tie := flatL 3 Tie.ok Tie.enc (fun _ => rfl)
def nodL : Lay Nod where
  sz := 3
  cells w d cs := ∃ v, cs = [.int .i64 d.id, .string d.kind, v] ∧ I64 d.id ∧ Sm d.kind ∧ Sl prpL w v d.props
  len h := by obtain ⟨v, rfl, _⟩ := h; rfl
  below hb h := by obtain ⟨v, rfl, h1, h2, h⟩ := h; exact ⟨v, rfl, h1, h2, h.below hb⟩
/-- A graph's value: two slices. -/
def GrfR (w : World) (v u : Value) (g : Grf) : Prop := Sl nodL w v g.nodes ∧ Sl tieL w u g.ties
theorem GrfR.below {w w' : World} {v u : Value} {g : Grf} (hb : Below w.heap.size w w') (h : GrfR w v u g) : GrfR w' v u g := ⟨h.1.below hb, h.2.below hb⟩
/-! ### An element, cell by cell, as the walk spells it -/
section
variable {w : World} {A : Option Addr} {k n c : Nat}
theorem int_all {l : List Int} (h : Sl intL w (.slice A n c) l) (hn : 0 < l.length) :
    ∃ b o, A = some ⟨b, o, none⟩ ∧ ∀ k d, l[k]? = some d → I64 d ∧ w.cell? ⟨b, o + k, none⟩ = some (.int .i64 d) := by
  obtain ⟨b, o, hA, hall⟩ := h.all hn
  refine ⟨b, o, hA, fun k d hk => ?_⟩
  obtain ⟨cs, ⟨rfl, ok⟩, hx⟩ := hall k d hk
  exact ⟨ok, by simpa [intL, flatL] using hx 0 _ rfl⟩
theorem int_at {l : List Int} (h : Sl intL w (.slice A n c) l) {d : Int} (hk : l[k]? = some d) :
    ∃ b o, A = some ⟨b, o, none⟩ ∧ I64 d ∧ w.cell? ⟨b, o + k, none⟩ = some (.int .i64 d) := by
  obtain ⟨b, o, hA, hall⟩ := int_all h (len_pos hk)
  exact ⟨b, o, hA, hall k d hk⟩
theorem byte_all {l : List UInt8} (h : Sl byteL w (.slice A n c) l) (hn : 0 < l.length) :
    ∃ b o, A = some ⟨b, o, none⟩ ∧ ∀ k d, l[k]? = some d → w.cell? ⟨b, o + k, none⟩ = some (.int .u8 d.toNat) := by
  obtain ⟨b, o, hA, hall⟩ := h.all hn
  refine ⟨b, o, hA, fun k d hk => ?_⟩
  obtain ⟨cs, ⟨rfl, ok⟩, hx⟩ := hall k d hk
  simpa [byteL, flatL] using hx 0 _ rfl
theorem byte_at {l : List UInt8} (h : Sl byteL w (.slice A n c) l) {d : UInt8} (hk : l[k]? = some d) :
    ∃ b o, A = some ⟨b, o, none⟩ ∧ w.cell? ⟨b, o + k, none⟩ = some (.int .u8 d.toNat) := by
  obtain ⟨b, o, hA, hall⟩ := byte_all h (len_pos hk)
  exact ⟨b, o, hA, hall k d hk⟩
theorem prp_all {l : List Prp} (h : Sl prpL w (.slice A n c) l) (hn : 0 < l.length) :
    ∃ b o, A = some ⟨b, o, none⟩ ∧ ∀ k d, l[k]? = some d → d.ok ∧ w.cell? ⟨b, o + k * 4, none⟩ = some (.string d.name) ∧ w.cell? ⟨b, o + k * 4 + 1, none⟩ = some (.int .i64 d.v.ty) ∧ w.cell? ⟨b, o + k * 4 + 2, none⟩ = some (.int .i64 d.v.n) ∧ w.cell? ⟨b, o + k * 4 + 3, none⟩ = some (.string d.v.s) := by
  obtain ⟨b, o, hA, hall⟩ := h.all hn
  refine ⟨b, o, hA, fun k d hk => ?_⟩
  obtain ⟨cs, ⟨rfl, ok⟩, hx⟩ := hall k d hk
  exact ⟨ok, hx 0 _ rfl, hx 1 _ rfl, hx 2 _ rfl, hx 3 _ rfl⟩
theorem prp_at {l : List Prp} (h : Sl prpL w (.slice A n c) l) {d : Prp} (hk : l[k]? = some d) :
    ∃ b o, A = some ⟨b, o, none⟩ ∧ d.ok ∧ w.cell? ⟨b, o + k * 4, none⟩ = some (.string d.name) ∧ w.cell? ⟨b, o + k * 4 + 1, none⟩ = some (.int .i64 d.v.ty) ∧ w.cell? ⟨b, o + k * 4 + 2, none⟩ = some (.int .i64 d.v.n) ∧ w.cell? ⟨b, o + k * 4 + 3, none⟩ = some (.string d.v.s) := by
  obtain ⟨b, o, hA, hall⟩ := prp_all h (len_pos hk)
  exact ⟨b, o, hA, hall k d hk⟩
theorem tie_all {l : List Tie} (h : Sl tieL w (.slice A n c) l) (hn : 0 < l.length) :
    ∃ b o, A = some ⟨b, o, none⟩ ∧ ∀ k d, l[k]? = some d → d.ok ∧ w.cell? ⟨b, o + k * 3, none⟩ = some (.string d.bond) ∧ w.cell? ⟨b, o + k * 3 + 1, none⟩ = some (.int .i64 d.src) ∧ w.cell? ⟨b, o + k * 3 + 2, none⟩ = some (.int .i64 d.dst) := by
  obtain ⟨b, o, hA, hall⟩ := h.all hn
  refine ⟨b, o, hA, fun k d hk => ?_⟩
  obtain ⟨cs, ⟨rfl, ok⟩, hx⟩ := hall k d hk
  exact ⟨ok, hx 0 _ rfl, hx 1 _ rfl, hx 2 _ rfl⟩
theorem tie_at {l : List Tie} (h : Sl tieL w (.slice A n c) l) {d : Tie} (hk : l[k]? = some d) :
    ∃ b o, A = some ⟨b, o, none⟩ ∧ d.ok ∧ w.cell? ⟨b, o + k * 3, none⟩ = some (.string d.bond) ∧ w.cell? ⟨b, o + k * 3 + 1, none⟩ = some (.int .i64 d.src) ∧ w.cell? ⟨b, o + k * 3 + 2, none⟩ = some (.int .i64 d.dst) := by
  obtain ⟨b, o, hA, hall⟩ := tie_all h (len_pos hk)
  exact ⟨b, o, hA, hall k d hk⟩
theorem nod_all {l : List Nod} (h : Sl nodL w (.slice A n c) l) (hn : 0 < l.length) :
    ∃ b o, A = some ⟨b, o, none⟩ ∧ ∀ k d, l[k]? = some d → ∃ u, I64 d.id ∧ Sm d.kind ∧ Sl prpL w u d.props ∧ w.cell? ⟨b, o + k * 3, none⟩ = some (.int .i64 d.id) ∧ w.cell? ⟨b, o + k * 3 + 1, none⟩ = some (.string d.kind) ∧ w.cell? ⟨b, o + k * 3 + 2, none⟩ = some u := by
  obtain ⟨b, o, hA, hall⟩ := h.all hn
  refine ⟨b, o, hA, fun k d hk => ?_⟩
  obtain ⟨cs, ⟨u, rfl, e1, e2, ok⟩, hx⟩ := hall k d hk
  exact ⟨u, e1, e2, ok, hx 0 _ rfl, hx 1 _ rfl, hx 2 _ rfl⟩
theorem nod_at {l : List Nod} (h : Sl nodL w (.slice A n c) l) {d : Nod} (hk : l[k]? = some d) :
    ∃ b o, A = some ⟨b, o, none⟩ ∧ ∃ u, I64 d.id ∧ Sm d.kind ∧ Sl prpL w u d.props ∧ w.cell? ⟨b, o + k * 3, none⟩ = some (.int .i64 d.id) ∧ w.cell? ⟨b, o + k * 3 + 1, none⟩ = some (.string d.kind) ∧ w.cell? ⟨b, o + k * 3 + 2, none⟩ = some u := by
  obtain ⟨b, o, hA, hall⟩ := nod_all h (len_pos hk)
  exact ⟨b, o, hA, hall k d hk⟩
end

/-- A new row of ints. -/
theorem sl_ints {W : World} {b : Nat} {t : TypeId} {fr : Nat × Nat} (l : List Int) (hl : ∀ x ∈ l, I64 x) (c : Nat) (h1 : l.length ≤ c) (h2 : c ≤ maxLen) (h : W.heap[b]? = some (.cells (l.map (Value.int .i64)).toArray t fr)) : Sl intL W (.slice (some ⟨b, 0, none⟩) l.length c) l := by
  refine ⟨_, c, rfl, h1, h2, fun i d hi => ⟨b, 0, _, rfl, ⟨rfl, hl d (List.mem_of_getElem? hi)⟩, fun j u hj => ?_⟩⟩
  rw [cell_of_row W b _ _ t fr h]
  match j, hj with
  | 0, hj =>
    simp at hj
    subst hj
    simp [intL, flatL, hi]

/-! ### Small words for walks -/
theorem ret_int {k : IntKind} {a b : Int} (h : a = b) : Ending.returned (.int k a) = .returned (.int k b) := by rw [h]
theorem ret_bool {a b : Bool} (h : a = b) : Ending.returned (.bool a) = .returned (.bool b) := by rw [h]

/-- Old cells and marks read as before. -/
theorem bcell {W w1 : World} (hb : Below W.heap.size W w1) : (∀ b o, b < W.heap.size → w1.cell? ⟨b, o, none⟩ = W.cell? ⟨b, o, none⟩) ∧ (∀ b o, b < W.heap.size → w1.frozen? ⟨b, o, none⟩ = W.frozen? ⟨b, o, none⟩) :=
  ⟨fun b o h => hb.cell (p := ⟨b, o, none⟩) h, fun b o h => hb.frozen (p := ⟨b, o, none⟩) h⟩

/-- An error's value: 0 is nil. -/
def errV (k : Int) : Value := if k = 0 then .nilIface else .iface 122 (.int .i64 k)
theorem errV_zero {k : Int} (h : k = 0) : errV k = .nilIface := by simp [errV, h]
theorem errV_some {k : Int} (h : k ≠ 0) : errV k = .iface 122 (.int .i64 k) := by simp [errV, h]
end Go.Proofs.YtngbbefpphinjaaGreatDoor

/- Contracts: what value.Name, value.Check, record.prop and record.Check of the program answer, for every input that is not too long; plain functions on bytes beside them. -/
namespace Go.Proofs.YtngbbefpphinjaaGreatDoor
open Go.RowKit

/-- The place of the first that meets p; -1: none does. -/
def idxI {D : Type} (p : D → Bool) (l : List D) : Int := match l.findIdx? p with | some i => i | none => -1
theorem idxI_hit {D : Type} {p : D → Bool} {l : List D} {k : Nat} {d : D} (h1 : ∀ j x, j < k → l[j]? = some x → p x = false) (h2 : l[k]? = some d) (h3 : p d = true) : idxI p l = k := by
  unfold idxI
  have : l.findIdx? p = some k := by
    rw [List.findIdx?_eq_some_iff_getElem]
    obtain ⟨hk, rfl⟩ := List.getElem?_eq_some_iff.1 h2
    exact ⟨hk, h3, fun j hj => by simp [h1 j _ hj (List.getElem?_eq_getElem (by omega))]⟩
  rw [this]
theorem idxI_miss {D : Type} {p : D → Bool} {l : List D} (h1 : ∀ j x, j < l.length → l[j]? = some x → p x = false) : idxI p l = -1 := by
  unfold idxI
  have : l.findIdx? p = none := by
    rw [List.findIdx?_eq_none_iff]
    intro x hx
    obtain ⟨j, hj, rfl⟩ := List.getElem_of_mem hx
    exact h1 j _ hj (List.getElem?_eq_getElem hj)
  rw [this]
theorem idxI_any {D : Type} (p : D → Bool) (l : List D) : decide ((0 : Int) ≤ idxI p l) = l.any p := by
  unfold idxI
  cases h : l.findIdx? p with
  | none =>
    rw [List.findIdx?_eq_none_iff] at h
    have : l.any p = false := by rw [List.any_eq_false]; intro x hx; simp [h x hx]
    rw [this]; rfl
  | some i =>
    obtain ⟨hi, hp, _⟩ := List.findIdx?_eq_some_iff_getElem.1 h
    have : l.any p = true := List.any_eq_true.2 ⟨_, List.getElem_mem hi, hp⟩
    rw [this]; simp
theorem miss_step {D : Type} {p : D → Bool} {l : List D} {k : Nat} {d : D} (h1 : ∀ j x, j < k → l[j]? = some x → p x = false) (h2 : l[k]? = some d) (h3 : p d = false) : ∀ j x, j < k + 1 → l[j]? = some x → p x = false := by
  intro j x hj hx
  by_cases e : j = k
  · subst e
    have := h2.symm.trans hx
    cases this
    exact h3
  · exact h1 j x (by omega) hx

/-- What is asked of a function value: on each element, in every later world, it answers p and leaves what there was. -/
def PredB {D : Type} (P : Program) (g : Nat) (caps : Array Value) (V : World → D → Value → Prop) (p : D → Bool) (w : World) : Prop :=
  ∀ x u wx, Below w.heap.size w wx → V wx x u → Calls P g (#[u] ++ caps) wx (fun e w' => e = .returned (.bool (p x)) ∧ Below wx.heap.size wx w')

set_option maxHeartbeats 400000 in
theorem idx_byte (g : Nat) (caps : Array Value) (eg : ∀ args w, (callFunc g args).run Tryz.prog w = .ok (.enter g args) w) (p : UInt8 → Bool) (l : List UInt8) (v : Value) (w : World) (hv : Sl byteL w v l)
    (hp : PredB Tryz.prog g caps (fun _ x u => u = .int .u8 x.toNat) p w) :
    Calls Tryz.prog 194 #[v, .func (.func g) #[] caps] w fun e w' => e = .returned (.int .i64 (idxI p l)) ∧ Below w.heap.size w w' := by
  obtain ⟨A, c, rfl, hlc, hcm⟩ := hv.form
  unfold maxLen at hcm
  go_enter Tryz.func194, Tryz.ntmps194
  go_wp2_with fail
  go_loopw [8] (fun i wr => ∃ k : Nat, k ≤ l.length ∧ i = .int .i64 k ∧ Below w.heap.size w wr ∧ Hid (∀ j x, j < k → l[j]? = some x → p x = false)) (fun i _ => l.length - (intOf i).toNat)
  case atStart => exact ⟨0, Nat.zero_le _, rfl, Below.refl _ _, fun j x hj => absurd hj (Nat.not_lt_zero _)⟩
  case round =>
    obtain ⟨k, hk, rfl, hb, HA⟩ := hrel
    by_cases hlt : k < l.length
    · obtain ⟨d, hd⟩ : ∃ d, l[k]? = some d := ⟨_, List.getElem?_eq_getElem hlt⟩
      obtain ⟨b, o, rfl, hcell⟩ := byte_at (hv.below hb) hd
      have HD : Hid (l[k]? = some d) := hd
      clear hd
      have hcall := hp d _ wr hb rfl
      clear hp hv
      cases hq : p d with
      | true =>
        rw [hq] at hcall
        have HQ : Hid (p d = true) := hq
        clear hq
        go_wp2_with (go_at_fn g; refine hcall.mono ?_; rintro e w' ⟨rfl, hb2⟩)
        go_ret
        exact ⟨ret_int (idxI_hit HA.out HD.out HQ.out).symm, hb.trans (hb2.mono hb.size)⟩
      | false =>
        rw [hq] at hcall
        have HQ : Hid (p d = false) := hq
        clear hq
        go_wp2_with (go_at_fn g; refine hcall.mono ?_; rintro e w' ⟨rfl, hb2⟩)
        go_roundw
        case rel => exact ⟨k + 1, by omega, by go_num, hb.trans (hb2.mono hb.size), miss_step HA.out HD.out HQ.out⟩
        case measure => simp [intOf]; omega
    · have hkl : k = l.length := by omega
      subst hkl
      go_wp2_with fail
      go_ret
      exact ⟨ret_int (idxI_miss HA.out).symm, hb⟩

theorem has_byte (g : Nat) (caps : Array Value) (eg : ∀ args w, (callFunc g args).run Tryz.prog w = .ok (.enter g args) w) (p : UInt8 → Bool) (l : List UInt8) (v : Value) (w : World) (hv : Sl byteL w v l)
    (hp : PredB Tryz.prog g caps (fun _ x u => u = .int .u8 x.toNat) p w) :
    Calls Tryz.prog 147 #[v, .func (.func g) #[] caps] w fun e w' => e = .returned (.bool (l.any p)) ∧ Below w.heap.size w w' := by
  have h1 := idx_byte g caps eg p l v w hv hp
  have h2 := idxI_any p l
  have H2 := Lib.hid h2
  clear h2 hv hp eg
  go_enter Tryz.func147, Tryz.ntmps147
  go_wp2_with (go_at_call 194; refine h1.mono ?_; rintro e w' ⟨rfl, hb⟩)
  go_ret
  exact ⟨ret_bool H2.out, hb⟩

/-- '[]byte(s)': a new row that reads as the text's bytes. -/
theorem bytes_sl (w : World) (s : ByteArray) (hs : Sm s) : Sl byteL (Lib.bytesWorld w 5 s) (.slice (some ⟨w.heap.size, 0, none⟩) s.size (grownCap w s.size 0 5)) s.data.toList ∧ Below w.heap.size w (Lib.bytesWorld w 5 s) := by
  have e : s.data.toList.length = s.size := by rw [Array.length_toList]; rfl
  refine ⟨⟨some ⟨w.heap.size, 0, none⟩, grownCap w s.size 0 5, by rw [e], by rw [e]; exact grownCap_ge _ _ _ _, ?_, ?_⟩, ⟨rfl, rfl, rfl, by rw [Lib.bytesWorld_size]; omega, fun k hk => Lib.bytesWorld_at_old w 5 s k hk⟩⟩
  · exact grownCap_le_maxLen _ _ _ _ (by unfold Sm at hs; unfold maxLen; omega)
  · intro i d hi
    refine ⟨_, _, _, rfl, ⟨rfl, trivial⟩, fun j u hj => ?_⟩
    have hlt : i < s.size := by rw [← e]; exact (List.getElem?_eq_some_iff.1 hi).1
    match j, hj with
    | 0, hj =>
      simp at hj
      subst hj
      have := Lib.bytesWorld_cell w 5 s i hlt
      simpa [byteL, flatL, List.getD, hi] using this

/-! ### value.Name -/
def nameC (c : UInt8) : Bool := decide ((c.toNat : Int) < 97) || decide (122 < (c.toNat : Int))
def nameE (s : ByteArray) : Int := if s.toList.isEmpty then 2 else if 8 < s.size then 2 else if s.data.toList.any nameC then 2 else 0
theorem name1 (c : UInt8) (w : World) :
    Calls Tryz.prog 197 #[.int .u8 c.toNat] w fun e w' => e = .returned (.bool (nameC c)) ∧ w = w' := by
  unfold nameC
  go_enter Tryz.func197, Tryz.ntmps197
  go_wp2
  all_goals go_ret
  all_goals exact ⟨rfl, rfl⟩
theorem name_any (s : ByteArray) (w : World) (hs : Sm s) :
    Calls Tryz.prog 150 #[.string s] w fun e w' => e = .returned (errV (nameE s)) ∧ Below w.heap.size w w' := by
  have hcv := fun wx => Lib.run_convert_string_bytes (P := Tryz.prog) wx 9 228 5 s Tryz.underlying9 Tryz.underlying228 Tryz.underlying5
  obtain ⟨hsl, hb⟩ := bytes_sl w s hs
  have hcall := has_byte 197 #[] (by intro args w; kernel_rfl) nameC s.data.toList _ _ hsl (fun x u wx _ hu => by subst hu; exact (name1 x wx).mono fun e w' ⟨h1, h2⟩ => ⟨h1, h2 ▸ Below.refl _ _⟩)
  have HF : Hid (nameE s = if s.toList.isEmpty then 2 else if 8 < s.size then 2 else if s.data.toList.any nameC then 2 else 0) := rfl
  clear hsl
  have hs' : s.size ≤ 1048576 := hs
  clear hs
  by_cases h0 : s.toList.isEmpty = true
  · have HE : Hid (errV (nameE s) = .iface 122 (.int .i64 2)) := by rw [HF.out, if_pos h0]; rfl
    clear hcall
    go_enter Tryz.func150, Tryz.ntmps150
    go_wp2_with fail
    go_ret
    exact ⟨by rw [HE.out]; rfl, Below.refl _ _⟩
  · have h0' : s.toList.isEmpty = false := by simpa using h0
    by_cases h8 : 8 < s.size
    · have HE : Hid (errV (nameE s) = .iface 122 (.int .i64 2)) := by rw [HF.out, if_neg h0, if_pos h8]; rfl
      have h8' : (8 : Int) < (s.size : Int) := by omega
      clear hcall h0
      go_enter Tryz.func150, Tryz.ntmps150
      go_wp2_with fail
      go_ret
      exact ⟨by rw [HE.out]; rfl, Below.refl _ _⟩
    · have h8' : decide ((8 : Int) < (s.size : Int)) = false := by simp; omega
      have h8'' : (s.size : Int) ≤ 8 := by omega
      clear h0
      cases hq : s.data.toList.any nameC with
      | true =>
        have HE : Hid (errV (nameE s) = .iface 122 (.int .i64 2)) := by rw [HF.out, h0', if_neg (by simp), if_neg h8, hq]; rfl
        rw [hq] at hcall
        clear hq
        go_enter Tryz.func150, Tryz.ntmps150
        go_wp2_with (go_at_call 147; refine hcall.mono ?_; rintro e w' ⟨rfl, hb2⟩)
        go_ret
        exact ⟨by rw [HE.out]; rfl, hb.trans (hb2.mono hb.size)⟩
      | false =>
        have HE : Hid (errV (nameE s) = .nilIface) := by rw [HF.out, h0', if_neg (by simp), if_neg h8, hq]; rfl
        rw [hq] at hcall
        clear hq
        go_enter Tryz.func150, Tryz.ntmps150
        go_wp2_with (go_at_call 147; refine hcall.mono ?_; rintro e w' ⟨rfl, hb2⟩)
        go_ret
        exact ⟨by rw [HE.out]; rfl, hb.trans (hb2.mono hb.size)⟩
end Go.Proofs.YtngbbefpphinjaaGreatDoor

/- Contracts: what value.Check, record.prop and record.Check of the program answer, for every input that is not too long. -/
namespace Go.Proofs.YtngbbefpphinjaaGreatDoor
open Go.RowKit

def strC (c : UInt8) : Bool := decide ((c.toNat : Int) < 32) || decide (126 < (c.toNat : Int))
theorem check1 (c : UInt8) (w : World) :
    Calls Tryz.prog 148 #[.int .u8 c.toNat] w fun e w' => e = .returned (.bool (strC c)) ∧ w = w' := by
  unfold strC
  go_enter Tryz.func148, Tryz.ntmps148
  go_wp2
  all_goals go_ret
  all_goals exact ⟨rfl, rfl⟩

/-- The least and the greatest number of a type. -/
def valLo (ty : Int) : Int := if ty = 1 then -1000000 else 0
def valHi (ty : Int) : Int := if ty = 1 then 1000000 else if ty = 2 then 1 else 0
/-- The fault of a value. -/
def valE (v : Val) : Int :=
  if v.ty = 1 ∨ v.ty = 2 ∨ v.ty = 3 then
    if v.n < valLo v.ty ∨ valHi v.ty < v.n then 1
    else if v.ty = 3 ∧ 20 < v.s.size then 4
    else if v.s.data.toList.any strC = true ∨ (v.ty ≠ 3 ∧ v.s.toList.isEmpty = false) then 2
    else 0
  else 8

/-- The call inside Check: strange bytes. -/
theorem strange_any (ty n : Int) (s : ByteArray) (w W0 : World) (hW : W0 = w.alloc (.cells #[.int .i64 ty, .int .i64 n, .string s] 31)) (hs : Sm s) :
    Calls Tryz.prog 147 #[.slice (some ⟨w.heap.size + 1, 0, none⟩) s.size (grownCap W0 s.size 0 5), .func (.func 148) #[] #[]] (Lib.bytesWorld W0 5 s)
      fun e w' => e = .returned (.bool (s.data.toList.any strC)) ∧ Below w.heap.size w w' ∧ w'.cell? ⟨w.heap.size, 0, none⟩ = some (.int .i64 ty) ∧ w'.cell? ⟨w.heap.size, 1, none⟩ = some (.int .i64 n) ∧
        w'.cell? ⟨w.heap.size, 2, none⟩ = some (.string s) := by
  obtain ⟨hsl, hb⟩ := bytes_sl W0 s hs
  have hsz : W0.heap.size = w.heap.size + 1 := by subst hW; simp
  rw [hsz] at hsl
  refine (has_byte 148 #[] (by intro args w; kernel_rfl) strC s.data.toList _ _ hsl (fun x u wx _ hu => by subst hu; exact (check1 x wx).mono fun e w' ⟨h1, h2⟩ => ⟨h1, h2 ▸ Below.refl _ _⟩)).mono ?_
  rintro e w' ⟨he, hb2⟩
  have hb3 : Below W0.heap.size W0 w' := hb.trans (hb2.mono hb.size)
  refine ⟨he, ?_, cell_below hb3 ?_, cell_below hb3 ?_, cell_below hb3 ?_⟩
  · refine Below.trans (b := W0) (by subst hW; exact (Below.refl _ _).alloc (Nat.le_refl _) _) (hb3.mono (by subst hW; simp))
  all_goals subst hW; rw [World.cell?_alloc_at _ _ _ _ rfl]; rfl

section
variable (ty n : Int) (s : ByteArray) (w : World)
theorem check_bad (h : ¬ (ty = 1 ∨ ty = 2 ∨ ty = 3)) :
    Calls Tryz.prog 91 #[.agg #[.int .i64 ty, .int .i64 n, .string s]] w fun e w' => e = .returned (errV (valE ⟨ty, n, s⟩)) ∧ Below w.heap.size w w' := by
  have HE : Hid (errV (valE ⟨ty, n, s⟩) = .iface 122 (.int .i64 8)) := by unfold valE; rw [if_neg h]; rfl
  have h1 : (ty == 1) = false := by simp; omega
  have h2 : (ty == 2) = false := by simp; omega
  have h3 : (ty == 3) = false := by simp; omega
  clear h
  go_enter Tryz.func91, Tryz.ntmps91
  go_wp2_with fail
  go_ret
  exact ⟨by rw [HE.out]; rfl, (Below.refl _ _).alloc (Nat.le_refl _) _⟩
set_option maxHeartbeats 1000000 in
theorem check_int (hs : Sm s) :
    Calls Tryz.prog 91 #[.agg #[.int .i64 1, .int .i64 n, .string s]] w fun e w' => e = .returned (errV (valE ⟨1, n, s⟩)) ∧ Below w.heap.size w w' := by
  have hcv := fun wx => Lib.run_convert_string_bytes (P := Tryz.prog) wx 9 228 5 s Tryz.underlying9 Tryz.underlying228 Tryz.underlying5
  have hcall := strange_any 1 n s w _ rfl hs
  have hs' : s.size ≤ 1048576 := hs
  clear hs
  have HF : Hid (valE ⟨1, n, s⟩ = if n < -1000000 ∨ 1000000 < n then 1 else if s.data.toList.any strC = true ∨ s.toList.isEmpty = false then 2 else 0) := by
    unfold valE valLo valHi Hid; simp
  generalize s.data.toList.any strC = B at hcall HF
  by_cases h1 : n < -1000000
  · have HE : Hid (errV (valE ⟨1, n, s⟩) = .iface 122 (.int .i64 1)) := by rw [HF.out]; rw [if_pos (Or.inl h1)]; rfl
    clear HF
    go_enter Tryz.func91, Tryz.ntmps91
    go_wp2_with (go_at_call 147; refine hcall.mono ?_; rintro e w' ⟨rfl, hb, c0, c1, c2⟩)
    go_ret
    exact ⟨by rw [HE.out]; rfl, hb⟩
  · by_cases h2 : 1000000 < n
    · have HE : Hid (errV (valE ⟨1, n, s⟩) = .iface 122 (.int .i64 1)) := by rw [HF.out]; rw [if_pos (Or.inr h2)]; rfl
      clear HF
      go_enter Tryz.func91, Tryz.ntmps91
      go_wp2_with (go_at_call 147; refine hcall.mono ?_; rintro e w' ⟨rfl, hb, c0, c1, c2⟩)
      go_ret
      exact ⟨by rw [HE.out]; rfl, hb⟩
    · have h1' : -1000000 ≤ n := by omega
      have h2' : n ≤ 1000000 := by omega
      have h1b : decide (n < -1000000) = false := by simp; omega
      have h2b : decide (1000000 < n) = false := by simp; omega
      cases B with
      | true =>
        have HE : Hid (errV (valE ⟨1, n, s⟩) = .iface 122 (.int .i64 2)) := by rw [HF.out]; rw [if_neg (by omega), if_pos (Or.inl rfl)]; rfl
        clear HF
        go_enter Tryz.func91, Tryz.ntmps91
        go_wp2_with (go_at_call 147; refine hcall.mono ?_; rintro e w' ⟨rfl, hb, c0, c1, c2⟩)
        go_ret
        exact ⟨by rw [HE.out]; rfl, hb⟩
      | false =>
        cases h0 : s.toList.isEmpty with
        | true =>
          have HE : Hid (errV (valE ⟨1, n, s⟩) = .nilIface) := by rw [HF.out]; rw [h0, if_neg (by omega), if_neg (by simp)]; rfl
          clear HF
          go_enter Tryz.func91, Tryz.ntmps91
          go_wp2_with (go_at_call 147; refine hcall.mono ?_; rintro e w' ⟨rfl, hb, c0, c1, c2⟩)
          go_ret
          exact ⟨by rw [HE.out]; rfl, hb⟩
        | false =>
          have HE : Hid (errV (valE ⟨1, n, s⟩) = .iface 122 (.int .i64 2)) := by rw [HF.out]; rw [h0, if_neg (by omega), if_pos (by simp)]; rfl
          clear HF
          go_enter Tryz.func91, Tryz.ntmps91
          go_wp2_with (go_at_call 147; refine hcall.mono ?_; rintro e w' ⟨rfl, hb, c0, c1, c2⟩)
          go_ret
          exact ⟨by rw [HE.out]; rfl, hb⟩
set_option maxHeartbeats 1000000 in
theorem check_bool (hs : Sm s) :
    Calls Tryz.prog 91 #[.agg #[.int .i64 2, .int .i64 n, .string s]] w fun e w' => e = .returned (errV (valE ⟨2, n, s⟩)) ∧ Below w.heap.size w w' := by
  have hcv := fun wx => Lib.run_convert_string_bytes (P := Tryz.prog) wx 9 228 5 s Tryz.underlying9 Tryz.underlying228 Tryz.underlying5
  have hcall := strange_any 2 n s w _ rfl hs
  have hs' : s.size ≤ 1048576 := hs
  clear hs
  have HF : Hid (valE ⟨2, n, s⟩ = if n < 0 ∨ 1 < n then 1 else if s.data.toList.any strC = true ∨ s.toList.isEmpty = false then 2 else 0) := by
    unfold valE valLo valHi Hid; simp
  generalize s.data.toList.any strC = B at hcall HF
  by_cases h1 : n < 0
  · have HE : Hid (errV (valE ⟨2, n, s⟩) = .iface 122 (.int .i64 1)) := by rw [HF.out]; rw [if_pos (Or.inl h1)]; rfl
    clear HF
    go_enter Tryz.func91, Tryz.ntmps91
    go_wp2_with (go_at_call 147; refine hcall.mono ?_; rintro e w' ⟨rfl, hb, c0, c1, c2⟩)
    go_ret
    exact ⟨by rw [HE.out]; rfl, hb⟩
  · by_cases h2 : 1 < n
    · have HE : Hid (errV (valE ⟨2, n, s⟩) = .iface 122 (.int .i64 1)) := by rw [HF.out]; rw [if_pos (Or.inr h2)]; rfl
      clear HF
      go_enter Tryz.func91, Tryz.ntmps91
      go_wp2_with (go_at_call 147; refine hcall.mono ?_; rintro e w' ⟨rfl, hb, c0, c1, c2⟩)
      go_ret
      exact ⟨by rw [HE.out]; rfl, hb⟩
    · have h1' : 0 ≤ n := by omega
      have h2' : n ≤ 1 := by omega
      have h1b : decide (n < 0) = false := by simp; omega
      have h2b : decide (1 < n) = false := by simp; omega
      cases B with
      | true =>
        have HE : Hid (errV (valE ⟨2, n, s⟩) = .iface 122 (.int .i64 2)) := by rw [HF.out]; rw [if_neg (by omega), if_pos (Or.inl rfl)]; rfl
        clear HF
        go_enter Tryz.func91, Tryz.ntmps91
        go_wp2_with (go_at_call 147; refine hcall.mono ?_; rintro e w' ⟨rfl, hb, c0, c1, c2⟩)
        go_ret
        exact ⟨by rw [HE.out]; rfl, hb⟩
      | false =>
        cases h0 : s.toList.isEmpty with
        | true =>
          have HE : Hid (errV (valE ⟨2, n, s⟩) = .nilIface) := by rw [HF.out]; rw [h0, if_neg (by omega), if_neg (by simp)]; rfl
          clear HF
          go_enter Tryz.func91, Tryz.ntmps91
          go_wp2_with (go_at_call 147; refine hcall.mono ?_; rintro e w' ⟨rfl, hb, c0, c1, c2⟩)
          go_ret
          exact ⟨by rw [HE.out]; rfl, hb⟩
        | false =>
          have HE : Hid (errV (valE ⟨2, n, s⟩) = .iface 122 (.int .i64 2)) := by rw [HF.out]; rw [h0, if_neg (by omega), if_pos (by simp)]; rfl
          clear HF
          go_enter Tryz.func91, Tryz.ntmps91
          go_wp2_with (go_at_call 147; refine hcall.mono ?_; rintro e w' ⟨rfl, hb, c0, c1, c2⟩)
          go_ret
          exact ⟨by rw [HE.out]; rfl, hb⟩
set_option maxHeartbeats 1000000 in
theorem check_text (hs : Sm s) :
    Calls Tryz.prog 91 #[.agg #[.int .i64 3, .int .i64 n, .string s]] w fun e w' => e = .returned (errV (valE ⟨3, n, s⟩)) ∧ Below w.heap.size w w' := by
  have hcv := fun wx => Lib.run_convert_string_bytes (P := Tryz.prog) wx 9 228 5 s Tryz.underlying9 Tryz.underlying228 Tryz.underlying5
  have hcall := strange_any 3 n s w _ rfl hs
  have hs' : s.size ≤ 1048576 := hs
  clear hs
  have HF : Hid (valE ⟨3, n, s⟩ = if n < 0 ∨ 0 < n then 1 else if 20 < s.size then 4 else if s.data.toList.any strC = true then 2 else 0) := by
    unfold valE valLo valHi Hid; simp
  generalize s.data.toList.any strC = B at hcall HF
  by_cases h1 : n < 0
  · have HE : Hid (errV (valE ⟨3, n, s⟩) = .iface 122 (.int .i64 1)) := by rw [HF.out]; rw [if_pos (Or.inl h1)]; rfl
    clear HF
    go_enter Tryz.func91, Tryz.ntmps91
    go_wp2_with (go_at_call 147; refine hcall.mono ?_; rintro e w' ⟨rfl, hb, c0, c1, c2⟩)
    go_ret
    exact ⟨by rw [HE.out]; rfl, hb⟩
  · by_cases h2 : 0 < n
    · have HE : Hid (errV (valE ⟨3, n, s⟩) = .iface 122 (.int .i64 1)) := by rw [HF.out]; rw [if_pos (Or.inr h2)]; rfl
      clear HF
      go_enter Tryz.func91, Tryz.ntmps91
      go_wp2_with (go_at_call 147; refine hcall.mono ?_; rintro e w' ⟨rfl, hb, c0, c1, c2⟩)
      go_ret
      exact ⟨by rw [HE.out]; rfl, hb⟩
    · have h1' : 0 ≤ n := by omega
      have h2' : n ≤ 0 := by omega
      have h1b : decide (n < 0) = false := by simp; omega
      have h2b : decide (0 < n) = false := by simp; omega
      by_cases h3 : 20 < s.size
      · have h3' : (20 : Int) < (s.size : Int) := by omega
        have HE : Hid (errV (valE ⟨3, n, s⟩) = .iface 122 (.int .i64 4)) := by rw [HF.out]; rw [if_neg (by omega), if_pos h3]; rfl
        clear HF
        go_enter Tryz.func91, Tryz.ntmps91
        go_wp2_with (go_at_call 147; refine hcall.mono ?_; rintro e w' ⟨rfl, hb, c0, c1, c2⟩)
        go_ret
        exact ⟨by rw [HE.out]; rfl, hb⟩
      · have h3' : decide ((20 : Int) < (s.size : Int)) = false := by simp; omega
        have h3'' : (s.size : Int) ≤ 20 := by omega
        cases B with
        | true =>
          have HE : Hid (errV (valE ⟨3, n, s⟩) = .iface 122 (.int .i64 2)) := by rw [HF.out]; rw [if_neg (by omega), if_neg h3]; rfl
          clear HF
          go_enter Tryz.func91, Tryz.ntmps91
          go_wp2_with (go_at_call 147; refine hcall.mono ?_; rintro e w' ⟨rfl, hb, c0, c1, c2⟩)
          go_ret
          exact ⟨by rw [HE.out]; rfl, hb⟩
        | false =>
          have HE : Hid (errV (valE ⟨3, n, s⟩) = .nilIface) := by rw [HF.out]; rw [if_neg (by omega), if_neg h3]; rfl
          clear HF
          go_enter Tryz.func91, Tryz.ntmps91
          go_wp2_with (go_at_call 147; refine hcall.mono ?_; rintro e w' ⟨rfl, hb, c0, c1, c2⟩)
          go_ret
          exact ⟨by rw [HE.out]; rfl, hb⟩
end

theorem check_any (v : Val) (hv : v.ok) (w : World) :
    Calls Tryz.prog 91 #[.agg #[.int .i64 v.ty, .int .i64 v.n, .string v.s]] w fun e w' => e = .returned (errV (valE v)) ∧ Below w.heap.size w w' := by
  obtain ⟨ty, n, s⟩ := v
  obtain ⟨_, _, hs⟩ := hv
  show Calls Tryz.prog 91 #[.agg #[.int .i64 ty, .int .i64 n, .string s]] w _
  by_cases h1 : ty = 1
  · subst h1; exact check_int n s w hs
  by_cases h2 : ty = 2
  · subst h2; exact check_bool n s w hs
  by_cases h3 : ty = 3
  · subst h3; exact check_text n s w hs
  exact check_bad ty n s w (by rintro (h | h | h) <;> contradiction)
end Go.Proofs.YtngbbefpphinjaaGreatDoor

/- Contracts: what record.prop, record.Check, graph.Id, cmp.Compare, strings.Compare, record.Find and graph.Find of the program answer. -/
namespace Go.Proofs.YtngbbefpphinjaaGreatDoor
open Go.RowKit

/-- The fault of the first that has one; 0: none has. -/
def firstE {D : Type} (f : D → Int) : List D → Int
  | [] => 0
  | d :: r => if f d = 0 then firstE f r else f d
theorem firstE_hit {D : Type} {f : D → Int} : ∀ {l : List D} {k : Nat} {d : D}, (∀ j x, j < k → l[j]? = some x → f x = 0) → l[k]? = some d → f d ≠ 0 → firstE f l = f d
  | a :: r, 0, d, _, h2, h3 => by
    simp at h2
    subst h2
    simp [firstE, h3]
  | a :: r, k + 1, d, h1, h2, h3 => by
    have h0 : f a = 0 := h1 0 a (by omega) rfl
    simp only [firstE, h0, if_true]
    exact firstE_hit (l := r) (k := k) (fun j x hj hx => h1 (j + 1) x (by omega) (by simpa using hx)) (by simpa using h2) h3
theorem firstE_none {D : Type} {f : D → Int} : ∀ {l : List D}, (∀ j x, j < l.length → l[j]? = some x → f x = 0) → firstE f l = 0
  | [], _ => rfl
  | a :: r, h1 => by
    have h0 : f a = 0 := h1 0 a (by simp) rfl
    simp only [firstE, h0, if_true]
    exact firstE_none (l := r) (fun j x hj hx => h1 (j + 1) x (by simpa using hj) (by simpa using hx))
theorem zero_step {D : Type} {f : D → Int} {l : List D} {k : Nat} {d : D} (h1 : ∀ j x, j < k → l[j]? = some x → f x = 0) (h2 : l[k]? = some d) (h3 : f d = 0) : ∀ j x, j < k + 1 → l[j]? = some x → f x = 0 := by
  intro j x hj hx
  by_cases e : j = k
  · subst e
    have := h2.symm.trans hx
    cases this
    exact h3
  · exact h1 j x (by omega) hx

/-- Each is ahead of the next one. -/
def chain {D : Type} (R : D → D → Bool) : List D → Bool
  | a :: b :: r => R a b && chain R (b :: r)
  | _ => true
theorem chain_iff {D : Type} {R : D → D → Bool} : ∀ {l : List D}, chain R l = true ↔ ∀ i a b, l[i]? = some a → l[i + 1]? = some b → R a b = true
  | [] => by simp [chain]
  | [a] => by simp [chain]
  | a :: b :: r => by
    simp only [chain, Bool.and_eq_true]
    rw [chain_iff (l := b :: r)]
    constructor
    · rintro ⟨h1, h2⟩ i x y hx hy
      match i, hx, hy with
      | 0, hx, hy => simp at hx hy; subst hx; subst hy; exact h1
      | i + 1, hx, hy => exact h2 i x y (by simpa using hx) (by simpa using hy)
    · intro h
      exact ⟨h 0 a b rfl rfl, fun i x y hx hy => h (i + 1) x y (by simpa using hx) (by simpa using hy)⟩
theorem chain_not {D : Type} {R : D → D → Bool} {l : List D} {i : Nat} {a b : D} (h1 : l[i]? = some a) (h2 : l[i + 1]? = some b) (h3 : R a b = false) : chain R l = false := by
  cases h : chain R l with
  | false => rfl
  | true => have := chain_iff.1 h i a b h1 h2; rw [h3] at this; cases this
theorem chain_step {D : Type} {R : D → D → Bool} {l : List D} {k : Nat} {a b : D} (h0 : ∀ i a b, i < k → l[i]? = some a → l[i + 1]? = some b → R a b = true) (h1 : l[k]? = some a) (h2 : l[k + 1]? = some b) (h3 : R a b = true) :
    ∀ i a b, i < k + 1 → l[i]? = some a → l[i + 1]? = some b → R a b = true := by
  intro i x y hi hx hy
  by_cases e : i = k
  · subst e
    have e1 := h1.symm.trans hx
    have e2 := h2.symm.trans hy
    cases e1; cases e2
    exact h3
  · exact h0 i x y (by omega) hx hy
theorem chain_all {D : Type} {R : D → D → Bool} {l : List D} {k : Nat} (hk : l.length ≤ k + 1) (h0 : ∀ i a b, i < k → l[i]? = some a → l[i + 1]? = some b → R a b = true) : chain R l = true :=
  chain_iff.2 fun i a b hx hy => h0 i a b (by have := (List.getElem?_eq_some_iff.1 hy).1; omega) hx hy

/-- Is a text ahead of another one? -/
def ltS (a b : ByteArray) : Bool := Op.bytesLess a.toList b.toList

/-! ### record.prop, record.Check -/
def prpE (p : Prp) : Int := if nameE p.name = 0 then valE p.v else nameE p.name
def recE (r : List Prp) : Int := if 8 < r.length then 4 else if firstE prpE r = 0 then (if chain (fun a b => ltS a.name b.name) r then 0 else 7) else firstE prpE r

set_option maxHeartbeats 400000 in
theorem prop_any (p : Prp) (hp : p.ok) (w : World) :
    Calls Tryz.prog 157 #[.agg #[.string p.name, .int .i64 p.v.ty, .int .i64 p.v.n, .string p.v.s]] w fun e w' => e = .returned (errV (prpE p)) ∧ Below w.heap.size w w' := by
  obtain ⟨nm, v⟩ := p
  obtain ⟨hn, hv⟩ := hp
  have hn' : Sm nm := hn
  by_cases h : nameE nm = 0
  · have HE : Hid (errV (prpE ⟨nm, v⟩) = errV (valE v)) := by unfold prpE; rw [if_pos h]; rfl
    have hE : errV (nameE nm) = .nilIface := errV_zero h
    clear h
    go_enter Tryz.func157, Tryz.ntmps157
    go_wp2_with fail
    refine (name_any nm _ hn').mono ?_
    rintro e w1 ⟨rfl, hb1⟩
    obtain ⟨hc, hf⟩ := bcell hb1
    rw [hE]
    go_wp2_with fail
    refine (check_any v hv _).mono ?_
    rintro e w2 ⟨rfl, hb2⟩
    have hb3 : Below w.heap.size w w2 := ((((Below.refl _ _).alloc (Nat.le_refl _) _).trans (hb1.mono (by simp))).trans (hb2.mono (by have := hb1.size; simp at this; omega)))
    go_wp2_with fail
    go_ret
    exact ⟨by rw [HE.out]; rfl, hb3⟩
  · have HE : Hid (errV (prpE ⟨nm, v⟩) = .iface 122 (.int .i64 (nameE nm))) := by unfold prpE; rw [if_neg h]; exact errV_some h
    have hE : errV (nameE nm) = .iface 122 (.int .i64 (nameE nm)) := errV_some h
    clear h
    go_enter Tryz.func157, Tryz.ntmps157
    go_wp2_with fail
    refine (name_any nm _ hn').mono ?_
    rintro e w1 ⟨rfl, hb1⟩
    rw [hE]
    go_wp2_with fail
    go_ret
    exact ⟨by rw [HE.out]; rfl, ((Below.refl _ _).alloc (Nat.le_refl _) _).trans (hb1.mono (by simp))⟩
end Go.Proofs.YtngbbefpphinjaaGreatDoor

/- Contract: what record.Check of the program answers. -/
namespace Go.Proofs.YtngbbefpphinjaaGreatDoor
open Go.RowKit

set_option maxHeartbeats 1000000 in
theorem recCheck_any (r : List Prp) (v : Value) (w : World) (hv : Sl prpL w v r) :
    Calls Tryz.prog 151 #[v] w fun e w' => e = .returned (errV (recE r)) ∧ Below w.heap.size w w' := by
  obtain ⟨A, c, rfl, hlc, hcm⟩ := hv.form
  unfold maxLen at hcm
  have HF : Hid (recE r = if 8 < r.length then 4 else if firstE prpE r = 0 then (if chain (fun a b => ltS a.name b.name) r then 0 else 7) else firstE prpE r) := rfl
  by_cases h8 : 8 < r.length
  · have HE : Hid (errV (recE r) = .iface 122 (.int .i64 4)) := by rw [HF.out, if_pos h8]; rfl
    have h8' : (8 : Int) < (r.length : Int) := by omega
    go_enter Tryz.func151, Tryz.ntmps151
    go_wp2_with fail
    go_ret
    exact ⟨by rw [HE.out]; rfl, Below.refl _ _⟩
  have h8' : decide ((8 : Int) < (r.length : Int)) = false := by simp; omega
  have h8'' : (r.length : Int) ≤ 8 := by omega
  go_enter Tryz.func151, Tryz.ntmps151
  go_wp2_with fail
  go_loopw [13] (fun i wr => ∃ k : Nat, k ≤ r.length ∧ i = .int .i64 k ∧ Below w.heap.size w wr ∧ Hid (∀ j x, j < k → r[j]? = some x → prpE x = 0)) (fun i _ => r.length - (intOf i).toNat)
  case atStart => exact ⟨0, Nat.zero_le _, rfl, Below.refl _ _, fun j x hj => absurd hj (Nat.not_lt_zero _)⟩
  case round =>
    obtain ⟨k, hk, rfl, hb, HA⟩ := hrel
    by_cases hlt : k < r.length
    · obtain ⟨d, hd⟩ : ∃ d, r[k]? = some d := ⟨_, List.getElem?_eq_getElem hlt⟩
      obtain ⟨b, o, rfl, hok, x0, x1, x2, x3⟩ := prp_at (hv.below hb) hd
      have HD : Hid (r[k]? = some d) := hd
      clear hd hv
      by_cases hz : prpE d = 0
      · have hE : errV (prpE d) = .nilIface := errV_zero hz
        have HZ : Hid (prpE d = 0) := hz
        clear hz
        go_wp2_with fail
        refine (prop_any d hok _).mono ?_
        rintro e w1 ⟨rfl, hb1⟩
        rw [hE]
        have hb2 : Below w.heap.size w w1 := (hb.alloc hb.size _).trans (hb1.mono (by have := hb.size; simp; omega))
        go_wp2_with fail
        go_roundw
        case rel => exact ⟨k + 1, by omega, by go_num, hb2, zero_step HA.out HD.out HZ.out⟩
        case measure => simp [intOf]; omega
      · have hE : errV (prpE d) = .iface 122 (.int .i64 (prpE d)) := errV_some hz
        have HE : Hid (errV (recE r) = .iface 122 (.int .i64 (prpE d))) := by
          have := firstE_hit HA.out HD.out hz
          rw [HF.out, if_neg h8, this, if_neg hz]; exact hE
        clear hz
        go_wp2_with fail
        refine (prop_any d hok _).mono ?_
        rintro e w1 ⟨rfl, hb1⟩
        rw [hE]
        have hb2 : Below w.heap.size w w1 := (hb.alloc hb.size _).trans (hb1.mono (by have := hb.size; simp; omega))
        go_wp2_with fail
        go_ret
        exact ⟨by rw [HE.out]; rfl, hb2⟩
    · have hkl : k = r.length := by omega
      subst hkl
      have HG : Hid (recE r = if chain (fun a b => ltS a.name b.name) r then 0 else 7) := by
        rw [HF.out, if_neg h8, if_pos (firstE_none HA.out)]; rfl
      clear HF HA
      obtain ⟨wo, rfl⟩ : ∃ wo : World, wo = wr := ⟨_, rfl⟩
      go_wp2_with fail
      go_loopw [6] (fun i wr => ∃ k : Nat, (k = 0 ∨ k < r.length) ∧ i = .int .i64 ((k : Int) + 1) ∧ Below w.heap.size w wr ∧ Hid (∀ i a b, i < k → r[i]? = some a → r[i + 1]? = some b → ltS a.name b.name = true)) (fun i _ => r.length + 1 - (intOf i).toNat)
      case atStart => exact ⟨0, Or.inl rfl, rfl, hb, fun j _ _ hj => absurd hj (Nat.not_lt_zero _)⟩
      case round =>
        obtain ⟨k, hk, rfl, hb, HA⟩ := hrel
        by_cases hlt : k + 1 < r.length
        · obtain ⟨d, hd⟩ : ∃ d, r[k]? = some d := ⟨_, List.getElem?_eq_getElem (by omega)⟩
          obtain ⟨d', hd'⟩ : ∃ d, r[k + 1]? = some d := ⟨_, List.getElem?_eq_getElem hlt⟩
          obtain ⟨b, o, rfl, hall⟩ := prp_all (hv.below hb) (by omega)
          obtain ⟨_, x0, _⟩ := hall _ _ hd
          obtain ⟨_, y0, _⟩ := hall _ _ hd'
          clear hall
          have hlt' : (k : Int) + 1 < (r.length : Int) := by omega
          have HD : Hid (r[k]? = some d) := hd
          have HD' : Hid (r[k + 1]? = some d') := hd'
          clear hd hd' hv
          cases hR : ltS d.name d'.name with
          | true =>
            have hR' : Op.bytesLess d.name.toList d'.name.toList = true := hR
            have HR : Hid (ltS d.name d'.name = true) := hR
            clear hR
            go_wp2_with fail
            go_quiet (fail)
            go_wp2_with fail
            go_roundw
            case rel => exact ⟨k + 1, by omega, by go_num, below_drewN hb _, chain_step HA.out HD.out HD'.out HR.out⟩
            case measure => simp [intOf]; omega
          | false =>
            have hR' : Op.bytesLess d.name.toList d'.name.toList = false := hR
            have HE : Hid (errV (recE r) = .iface 122 (.int .i64 7)) := by
              rw [HG.out, chain_not HD.out HD'.out hR]; rfl
            clear hR
            go_wp2_with fail
            go_quiet (fail)
            go_wp2_with fail
            go_ret
            exact ⟨by rw [HE.out]; rfl, below_drewN hb _⟩
        · have hlt' : (r.length : Int) ≤ (k : Int) + 1 := by omega
          have HE : Hid (errV (recE r) = .nilIface) := by
            rw [HG.out, chain_all (by omega) HA.out]; rfl
          clear hv
          go_wp2_with fail
          go_ret
          exact ⟨by rw [HE.out]; rfl, hb⟩
end Go.Proofs.YtngbbefpphinjaaGreatDoor
