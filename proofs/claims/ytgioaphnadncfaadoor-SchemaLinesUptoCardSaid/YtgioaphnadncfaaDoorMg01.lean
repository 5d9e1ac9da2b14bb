/- Parts: Base. -/
import Derived.WalkKit
import Derived.WalkSpells
import Derived.WalkLawsBesides
import Derived.ProofKit
import Derived.OpenShut
import Derived.Handy
import Derived.BigQuiet
import Derived.Lib.QuietBelow
import Derived.Lib.Hide
/- Plain predicates: how the program's data lie in memory (slices of numbers, texts and structs), and that they stay readable in every later world. No condition. -/
namespace Go.Proofs.YtgioaphnadncfaaDoor
open Go.RowKit

/-- The numbers of an int. -/
def I64 (n : Int) : Prop := -9223372036854775808 ≤ n ∧ n ≤ 9223372036854775807
/-- A text that is not too long. -/
def Sm (s : ByteArray) : Prop := s.size ≤ 1048576

/-- How data of one kind lie in cells. -/
structure Lay (D : Type) where
  sz : Nat
  cells : World → D → List Value → Prop
  len : ∀ {w d cs}, cells w d cs → cs.length = sz
  below : ∀ {w w' : World} {d cs}, Below w.heap.size w w' → cells w d cs → cells w' d cs

/-- The slice value v reads as the list l. -/
def Sl {D : Type} (L : Lay D) (w : World) (v : Value) (l : List D) : Prop :=
  ∃ (A : Option Addr) (c : Nat), v = .slice A l.length c ∧ l.length ≤ c ∧ c ≤ maxLen ∧
    ∀ i d, l[i]? = some d → ∃ b o cs, A = some ⟨b, o, none⟩ ∧ L.cells w d cs ∧ ∀ j u, cs[j]? = some u → w.cell? ⟨b, o + (i * L.sz + j), none⟩ = some u

section
variable {D : Type} {L : Lay D} {w w' : World} {v : Value} {l : List D}

theorem cell_below (hb : Below w.heap.size w w') {a : Addr} {u : Value} (h : w.cell? a = some u) : w'.cell? a = some u :=
  (hb.cell (World.block_lt_of_cell? _ _ h)).trans h

theorem Sl.below (hb : Below w.heap.size w w') (h : Sl L w v l) : Sl L w' v l := by
  obtain ⟨A, c, hv, h1, h2, h3⟩ := h
  refine ⟨A, c, hv, h1, h2, fun i d hi => ?_⟩
  obtain ⟨b, o, cs, hA, hc, hx⟩ := h3 i d hi
  exact ⟨b, o, cs, hA, L.below hb hc, fun j u hj => cell_below hb (hx j u hj)⟩

theorem Sl.nil (c : Nat) (hc : c ≤ maxLen) (A : Option Addr) : Sl L w (.slice A 0 c) [] :=
  ⟨A, c, rfl, Nat.zero_le _, hc, fun i d hi => by simp at hi⟩

theorem Sl.form (h : Sl L w v l) : ∃ A c, v = .slice A l.length c ∧ l.length ≤ c ∧ c ≤ maxLen := by
  obtain ⟨A, c, hv, h1, h2, _⟩ := h
  exact ⟨A, c, hv, h1, h2⟩

theorem Sl.all {A : Option Addr} {n c : Nat} (h : Sl L w (.slice A n c) l) (hn : 0 < l.length) :
    ∃ b o, A = some ⟨b, o, none⟩ ∧ ∀ k d, l[k]? = some d → ∃ cs, L.cells w d cs ∧ ∀ j u, cs[j]? = some u → w.cell? ⟨b, o + (k * L.sz + j), none⟩ = some u := by
  obtain ⟨A', c', hv, h1, h2, h3⟩ := h
  injection hv with hA _ _
  subst hA
  obtain ⟨b, o, cs, hA, _, _⟩ := h3 0 _ (List.getElem?_eq_getElem hn)
  refine ⟨b, o, hA, fun k d hk => ?_⟩
  obtain ⟨b', o', cs, hA', hc, hx⟩ := h3 k d hk
  rw [hA] at hA'
  injection hA' with e
  injection e with e1 e2
  subst e1; subst e2
  exact ⟨cs, hc, hx⟩
theorem len_pos {k : Nat} {d : D} (hk : l[k]? = some d) : 0 < l.length := by have := (List.getElem?_eq_some_iff.1 hk).1; omega
end

/-- Slices as elements. -/
def slL {D : Type} (L : Lay D) : Lay (List D) where
  sz := 1
  cells w l cs := ∃ v, cs = [v] ∧ Sl L w v l
  len h := by obtain ⟨v, rfl, _⟩ := h; rfl
  below hb h := by obtain ⟨v, rfl, h⟩ := h; exact ⟨v, rfl, h.below hb⟩

/-- Data whose cells hang on the data alone. -/
def flatL {D : Type} (n : Nat) (ok : D → Prop) (enc : D → List Value) (hn : ∀ d, (enc d).length = n) : Lay D where
  sz := n
  cells _ d cs := cs = enc d ∧ ok d
  len h := by rw [h.1, hn]
  below _ h := h

def intL : Lay Int := flatL 1 I64 (fun n => [.int .i64 n]) (fun _ => rfl)
def byteL : Lay UInt8 := flatL 1 (fun _ => True) (fun b => [.int .u8 b.toNat]) (fun _ => rfl)
def strL : Lay ByteArray := flatL 1 Sm (fun s => [.string s]) (fun _ => rfl)

/-! ### The program's structs -/
structure Fld where
  name : ByteArray
  ty : Int
  must : Bool
  key : Bool
  deriving DecidableEq
structure Knd where
  name : ByteArray
  ofs : List ByteArray
  fields : List Fld
  deriving DecidableEq
structure Bnd where
  name : ByteArray
  src : ByteArray
  dst : ByteArray
  mn : Int
  mx : Int
  deriving DecidableEq
structure Scm where
  kinds : List Knd
  bonds : List Bnd
  deriving DecidableEq

def Fld.ok (f : Fld) : Prop := Sm f.name ∧ I64 f.ty
def Fld.enc (f : Fld) : List Value := [.string f.name, .int .i64 f.ty, .bool f.must, .bool f.key]
def Bnd.ok (b : Bnd) : Prop := Sm b.name ∧ Sm b.src ∧ Sm b.dst ∧ I64 b.mn ∧ I64 b.mx
def Bnd.enc (b : Bnd) : List Value := [.string b.name, .string b.src, .string b.dst, .int .i64 b.mn, .int .i64 b.mx]
def fldL : Lay Fld := flatL 4 Fld.ok Fld.enc (fun _ => rfl)
def bndL : Lay Bnd := flatL 5 Bnd.ok Bnd.enc (fun _ => rfl)
def kndL : Lay Knd where
  sz := 3
  cells w d cs := ∃ v u, cs = [.string d.name, v, u] ∧ Sm d.name ∧ Sl strL w v d.ofs ∧ Sl fldL w u d.fields
  len h := by obtain ⟨v, u, rfl, _⟩ := h; rfl
  below hb h := by obtain ⟨v, u, rfl, h1, h2, h⟩ := h; exact ⟨v, u, rfl, h1, h2.below hb, h.below hb⟩

def ScmR (w : World) (v u : Value) (s : Scm) : Prop := Sl kndL w v s.kinds ∧ Sl bndL w u s.bonds
theorem ScmR.below {w w' : World} {v u : Value} {s : Scm} (hb : Below w.heap.size w w') (h : ScmR w v u s) : ScmR w' v u s := ⟨h.1.below hb, h.2.below hb⟩

/-! ### An element, cell by cell, as the walk spells it -/
section
variable {w : World} {A : Option Addr} {k n c : Nat}
theorem str_all {l : List ByteArray} (h : Sl strL w (.slice A n c) l) (hn : 0 < l.length) :
    ∃ b o, A = some ⟨b, o, none⟩ ∧ ∀ k d, l[k]? = some d → Sm d ∧ w.cell? ⟨b, o + k, none⟩ = some (.string d) := by
  obtain ⟨b, o, hA, hall⟩ := h.all hn
  refine ⟨b, o, hA, fun k d hk => ?_⟩
  obtain ⟨cs, ⟨rfl, ok⟩, hx⟩ := hall k d hk
  exact ⟨ok, by simpa [strL, flatL] using hx 0 _ rfl⟩
theorem str_at {l : List ByteArray} (h : Sl strL w (.slice A n c) l) {d : ByteArray} (hk : l[k]? = some d) :
    ∃ b o, A = some ⟨b, o, none⟩ ∧ Sm d ∧ w.cell? ⟨b, o + k, none⟩ = some (.string d) := by
  obtain ⟨b, o, hA, hall⟩ := str_all h (len_pos hk)
  exact ⟨b, o, hA, hall k d hk⟩
theorem byte_all {l : List UInt8} (h : Sl byteL w (.slice A n c) l) (hn : 0 < l.length) :
    ∃ b o, A = some ⟨b, o, none⟩ ∧ ∀ k d, l[k]? = some d → w.cell? ⟨b, o + k, none⟩ = some (.int .u8 d.toNat) := by
  obtain ⟨b, o, hA, hall⟩ := h.all hn
  refine ⟨b, o, hA, fun k d hk => ?_⟩
  obtain ⟨cs, ⟨rfl, ok⟩, hx⟩ := hall k d hk
  simpa [byteL, flatL] using hx 0 _ rfl
theorem byte_at {l : List UInt8} (h : Sl byteL w (.slice A n c) l) {d : UInt8} (hk : l[k]? = some d) :
    ∃ b o, A = some ⟨b, o, none⟩ ∧ w.cell? ⟨b, o + k, none⟩ = some (.int .u8 d.toNat) := by
  obtain ⟨b, o, hA, hall⟩ := byte_all h (len_pos hk)
  exact ⟨b, o, hA, hall k d hk⟩
theorem fld_all {l : List Fld} (h : Sl fldL w (.slice A n c) l) (hn : 0 < l.length) :
    ∃ b o, A = some ⟨b, o, none⟩ ∧ ∀ k d, l[k]? = some d → d.ok ∧ w.cell? ⟨b, o + k * 4, none⟩ = some (.string d.name) ∧ w.cell? ⟨b, o + k * 4 + 1, none⟩ = some (.int .i64 d.ty) ∧ w.cell? ⟨b, o + k * 4 + 2, none⟩ = some (.bool d.must) ∧ w.cell? ⟨b, o + k * 4 + 3, none⟩ = some (.bool d.key) := by
  obtain ⟨b, o, hA, hall⟩ := h.all hn
  refine ⟨b, o, hA, fun k d hk => ?_⟩
  obtain ⟨cs, ⟨rfl, ok⟩, hx⟩ := hall k d hk
  exact ⟨ok, hx 0 _ rfl, hx 1 _ rfl, hx 2 _ rfl, hx 3 _ rfl⟩
theorem fld_at {l : List Fld} (h : Sl fldL w (.slice A n c) l) {d : Fld} (hk : l[k]? = some d) :
    ∃ b o, A = some ⟨b, o, none⟩ ∧ d.ok ∧ w.cell? ⟨b, o + k * 4, none⟩ = some (.string d.name) ∧ w.cell? ⟨b, o + k * 4 + 1, none⟩ = some (.int .i64 d.ty) ∧ w.cell? ⟨b, o + k * 4 + 2, none⟩ = some (.bool d.must) ∧ w.cell? ⟨b, o + k * 4 + 3, none⟩ = some (.bool d.key) := by
  obtain ⟨b, o, hA, hall⟩ := fld_all h (len_pos hk)
  exact ⟨b, o, hA, hall k d hk⟩
theorem bnd_all {l : List Bnd} (h : Sl bndL w (.slice A n c) l) (hn : 0 < l.length) :
    ∃ b o, A = some ⟨b, o, none⟩ ∧ ∀ k d, l[k]? = some d → d.ok ∧ w.cell? ⟨b, o + k * 5, none⟩ = some (.string d.name) ∧ w.cell? ⟨b, o + k * 5 + 1, none⟩ = some (.string d.src) ∧ w.cell? ⟨b, o + k * 5 + 2, none⟩ = some (.string d.dst) ∧ w.cell? ⟨b, o + k * 5 + 3, none⟩ = some (.int .i64 d.mn) ∧ w.cell? ⟨b, o + k * 5 + 4, none⟩ = some (.int .i64 d.mx) := by
  obtain ⟨b, o, hA, hall⟩ := h.all hn
  refine ⟨b, o, hA, fun k d hk => ?_⟩
  obtain ⟨cs, ⟨rfl, ok⟩, hx⟩ := hall k d hk
  exact ⟨ok, hx 0 _ rfl, hx 1 _ rfl, hx 2 _ rfl, hx 3 _ rfl, hx 4 _ rfl⟩
theorem bnd_at {l : List Bnd} (h : Sl bndL w (.slice A n c) l) {d : Bnd} (hk : l[k]? = some d) :
    ∃ b o, A = some ⟨b, o, none⟩ ∧ d.ok ∧ w.cell? ⟨b, o + k * 5, none⟩ = some (.string d.name) ∧ w.cell? ⟨b, o + k * 5 + 1, none⟩ = some (.string d.src) ∧ w.cell? ⟨b, o + k * 5 + 2, none⟩ = some (.string d.dst) ∧ w.cell? ⟨b, o + k * 5 + 3, none⟩ = some (.int .i64 d.mn) ∧ w.cell? ⟨b, o + k * 5 + 4, none⟩ = some (.int .i64 d.mx) := by
  obtain ⟨b, o, hA, hall⟩ := bnd_all h (len_pos hk)
  exact ⟨b, o, hA, hall k d hk⟩
theorem knd_all {l : List Knd} (h : Sl kndL w (.slice A n c) l) (hn : 0 < l.length) :
    ∃ b o, A = some ⟨b, o, none⟩ ∧ ∀ k d, l[k]? = some d → ∃ u x, Sm d.name ∧ Sl strL w u d.ofs ∧ Sl fldL w x d.fields ∧ w.cell? ⟨b, o + k * 3, none⟩ = some (.string d.name) ∧ w.cell? ⟨b, o + k * 3 + 1, none⟩ = some u ∧ w.cell? ⟨b, o + k * 3 + 2, none⟩ = some x := by
  obtain ⟨b, o, hA, hall⟩ := h.all hn
  refine ⟨b, o, hA, fun k d hk => ?_⟩
  obtain ⟨cs, ⟨u, x, rfl, e1, e2, e3⟩, hx⟩ := hall k d hk
  exact ⟨u, x, e1, e2, e3, hx 0 _ rfl, hx 1 _ rfl, hx 2 _ rfl⟩
theorem knd_at {l : List Knd} (h : Sl kndL w (.slice A n c) l) {d : Knd} (hk : l[k]? = some d) :
    ∃ b o, A = some ⟨b, o, none⟩ ∧ ∃ u x, Sm d.name ∧ Sl strL w u d.ofs ∧ Sl fldL w x d.fields ∧ w.cell? ⟨b, o + k * 3, none⟩ = some (.string d.name) ∧ w.cell? ⟨b, o + k * 3 + 1, none⟩ = some u ∧ w.cell? ⟨b, o + k * 3 + 2, none⟩ = some x := by
  obtain ⟨b, o, hA, hall⟩ := knd_all h (len_pos hk)
  exact ⟨b, o, hA, hall k d hk⟩
end

/-! ### Small words for walks -/
theorem ret_int {k : IntKind} {a b : Int} (h : a = b) : Ending.returned (.int k a) = .returned (.int k b) := by rw [h]
theorem ret_bool {a b : Bool} (h : a = b) : Ending.returned (.bool a) = .returned (.bool b) := by rw [h]

/-- An error's value: 0 is nil. -/
def errV (k : Int) : Value := if k = 0 then .nilIface else .iface 76 (.int .i64 k)
theorem errV_zero {k : Int} (h : k = 0) : errV k = .nilIface := by simp [errV, h]
theorem errV_some {k : Int} (h : k ≠ 0) : errV k = .iface 76 (.int .i64 k) := by simp [errV, h]
end Go.Proofs.YtgioaphnadncfaaDoor
