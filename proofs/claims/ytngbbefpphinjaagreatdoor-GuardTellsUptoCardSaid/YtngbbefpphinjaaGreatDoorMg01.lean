/- Parts: Base, Own, Qr, KinA, OwnF, Qt. -/
import Derived.WalkKit
import Derived.WalkSpells
import Derived.WalkLawsBesides
import Derived.ProofKit
import Derived.OpenShut
import Derived.Handy
import Derived.BigQuiet
import Derived.Lib.QuietBelow
import Derived.Lib.Hide
import Derived.Maps.AppendAt
import Derived.Sort.BigQuietIn
import Derived.Maps.OwnIn
import Derived.Maps.Views
import Derived.StringKeys
import Derived.Test.YtngbbefpphinjaaGreatDoorRows
import Derived.StillTail
/- Plain predicates: how the program's data lie in memory (slices of numbers, texts and structs), and that they stay readable in every later world. No condition. -/
namespace Go.Proofs.YtngbbefpphinjaaGreatDoor
open Go.RowKit
theorem geB {α : Type _} {xs : Array α} {i : Nat} {a : α} (h : xs[i]? = some a) : i < xs.size := (Array.getElem?_eq_some_iff.1 h).1
def I64 (n : Int) : Prop := -9223372036854775808 <= n /\ n <= 9223372036854775807
def Sm (s : ByteArray) : Prop := s.size <= 1048576
structure Lay (D : Type) where
 sz : Nat
 cells : World -> D -> List Value -> Prop
 len : ∀ {w d cs}, cells w d cs -> cs.length = sz
 below : ∀ {w w' : World} {d cs}, Below w.heap.size w w' -> cells w d cs -> cells w' d cs
def Sl {D : Type} (L : Lay D) (w : World) (v : Value) (l : List D) : Prop :=
 ∃ (A : Option Addr) (c : Nat), v = .slice A l.length c /\ l.length <= c /\ c <= maxLen /\
   ∀ i d, l[i]? = some d -> ∃ b o cs, A = some ⟨b, o, none⟩ /\ L.cells w d cs /\ ∀ j u, cs[j]? = some u -> w.cell? ⟨b, o + (i * L.sz + j), none⟩ = some u
section
variable {D : Type} {L : Lay D} {w w' : World} {v : Value} {l : List D}
theorem cell_below (hb : Below w.heap.size w w') {a : Addr} {u : Value} (h : w.cell? a = some u) : w'.cell? a = some u :=
 (hb.cell (World.block_lt_of_cell? _ _ h)).trans h
theorem Sl.below (hb : Below w.heap.size w w') (h : Sl L w v l) : Sl L w' v l := by
 obtain ⟨A, c, hv, h1, h2, h3⟩ := h
 refine ⟨A, c, hv, h1, h2, fun i d hi => ?_⟩
 obtain ⟨b, o, cs, hA, hc, hx⟩ := h3 i d hi
 exact ⟨b, o, cs, hA, L.below hb hc, fun j u hj => cell_below hb (hx j u hj)⟩
theorem Sl.nil (c : Nat) (hc : c <= maxLen) (A : Option Addr) : Sl L w (.slice A 0 c) [] :=
 ⟨A, c, rfl, Nat.zero_le _, hc, fun i d hi => by simp at hi⟩
theorem Sl.form (h : Sl L w v l) : ∃ A c, v = .slice A l.length c /\ l.length <= c /\ c <= maxLen := by
 obtain ⟨A, c, hv, h1, h2, _⟩ := h
 exact ⟨A, c, hv, h1, h2⟩
theorem Sl.all {A : Option Addr} {n c : Nat} (h : Sl L w (.slice A n c) l) (hn : 0 < l.length) :
 ∃ b o, A = some ⟨b, o, none⟩ /\ ∀ k d, l[k]? = some d -> ∃ cs, L.cells w d cs /\ ∀ j u, cs[j]? = some u -> w.cell? ⟨b, o + (k * L.sz + j), none⟩ = some u := by
 obtain ⟨A', c', hv, h1, h2, h3⟩ := h
 injection hv with hA _ _
 subst hA
 obtain ⟨b, o, cs, hA, _, _⟩ := h3 0 _ (List.getElem?_eq_getElem hn)
 refine ⟨b, o, hA, fun k d hk => ?_⟩
 obtain ⟨b', o', cs, hA', hc, hx⟩ := h3 k d hk
 rw [hA] at hA'
 injection hA' with e
 injection e with e1 e2
 subst e1; subst e2
 exact ⟨cs, hc, hx⟩
theorem len_pos {k : Nat} {d : D} (hk : l[k]? = some d) : 0 < l.length := by have := (List.getElem?_eq_some_iff.1 hk).1; omega
end
def slL {D : Type} (L : Lay D) : Lay (List D) where
 sz := 1
 cells w l cs := ∃ v, cs = [v] /\ Sl L w v l
 len h := by obtain ⟨v, rfl, _⟩ := h; rfl
 below hb h := by obtain ⟨v, rfl, h⟩ := h; exact ⟨v, rfl, h.below hb⟩
def flatL {D : Type} (n : Nat) (ok : D -> Prop) (enc : D -> List Value) (hn : ∀ d, (enc d).length = n) : Lay D where
 sz := n
 cells _ d cs := cs = enc d /\ ok d
 len h := by rw [h.1, hn]
 below _ h := h
def intL : Lay Int := flatL 1 I64 (fun n => [.int .i64 n]) (fun _ => rfl)
def byteL : Lay UInt8 := flatL 1 (fun _ => True) (fun b => [.int .u8 b.toNat]) (fun _ => rfl)
def strL : Lay ByteArray := flatL 1 Sm (fun s => [.string s]) (fun _ => rfl)
/-! ### The program's structs -/
structure Val where
 ty : Int
 n : Int
 s : ByteArray
 deriving DecidableEq
structure Prp where
 name : ByteArray
 v : Val
 deriving DecidableEq
structure Fld where
 name : ByteArray
 ty : Int
 must : Bool
 key : Bool
 deriving DecidableEq
structure Knd where
 name : ByteArray
 ofs : List ByteArray
 fields : List Fld
 deriving DecidableEq
structure Bnd where
 name : ByteArray
 src : ByteArray
 dst : ByteArray
 mn : Int
 mx : Int
 deriving DecidableEq
structure Nod where
 id : Int
 kind : ByteArray
 props : List Prp
 deriving DecidableEq
structure Tie where
 bond : ByteArray
 src : Int
 dst : Int
 deriving DecidableEq
structure Grf where
 nodes : List Nod
 ties : List Tie
 deriving DecidableEq
structure Scm where
 kinds : List Knd
 bonds : List Bnd
 deriving DecidableEq
def Val.ok (v : Val) : Prop := I64 v.ty /\ I64 v.n /\ Sm v.s
def Val.enc (v : Val) : List Value := [.int .i64 v.ty, .int .i64 v.n, .string v.s]
def Prp.ok (p : Prp) : Prop := Sm p.name /\ p.v.ok
def Prp.enc (p : Prp) : List Value := [.string p.name, .int .i64 p.v.ty, .int .i64 p.v.n, .string p.v.s]
def Fld.ok (f : Fld) : Prop := Sm f.name /\ I64 f.ty
def Fld.enc (f : Fld) : List Value := [.string f.name, .int .i64 f.ty, .bool f.must, .bool f.key]
def Bnd.ok (b : Bnd) : Prop := Sm b.name /\ Sm b.src /\ Sm b.dst /\ I64 b.mn /\ I64 b.mx
def Bnd.enc (b : Bnd) : List Value := [.string b.name, .string b.src, .string b.dst, .int .i64 b.mn, .int .i64 b.mx]
def Tie.ok (t : Tie) : Prop := Sm t.bond /\ I64 t.src /\ I64 t.dst
def Tie.enc (t : Tie) : List Value := [.string t.bond, .int .i64 t.src, .int .i64 t.dst]
def valL : Lay Val := flatL 3 Val.ok Val.enc (fun _ => rfl)
def prpL : Lay Prp := flatL 4 Prp.ok Prp.enc (fun _ => rfl)
def fldL : Lay Fld := flatL 4 Fld.ok Fld.enc (fun _ => rfl)
def bndL : Lay Bnd := flatL 5 Bnd.ok Bnd.enc (fun _ => rfl)
def tieL : Lay Tie := flatL 3 Tie.ok Tie.enc (fun _ => rfl)
def nodL : Lay Nod where
 sz := 3
 cells w d cs := ∃ v, cs = [.int .i64 d.id, .string d.kind, v] /\ I64 d.id /\ Sm d.kind /\ Sl prpL w v d.props
 len h := by obtain ⟨v, rfl, _⟩ := h; rfl
 below hb h := by obtain ⟨v, rfl, h1, h2, h⟩ := h; exact ⟨v, rfl, h1, h2, h.below hb⟩
def kndL : Lay Knd where
 sz := 3
 cells w d cs := ∃ v u, cs = [.string d.name, v, u] /\ Sm d.name /\ Sl strL w v d.ofs /\ Sl fldL w u d.fields
 len h := by obtain ⟨v, u, rfl, _⟩ := h; rfl
 below hb h := by obtain ⟨v, u, rfl, h1, h2, h⟩ := h; exact ⟨v, u, rfl, h1, h2.below hb, h.below hb⟩
def GrfR (w : World) (v u : Value) (g : Grf) : Prop := Sl nodL w v g.nodes /\ Sl tieL w u g.ties
def ScmR (w : World) (v u : Value) (s : Scm) : Prop := Sl kndL w v s.kinds /\ Sl bndL w u s.bonds
theorem GrfR.below {w w' : World} {v u : Value} {g : Grf} (hb : Below w.heap.size w w') (h : GrfR w v u g) : GrfR w' v u g := ⟨h.1.below hb, h.2.below hb⟩
theorem ScmR.below {w w' : World} {v u : Value} {s : Scm} (hb : Below w.heap.size w w') (h : ScmR w v u s) : ScmR w' v u s := ⟨h.1.below hb, h.2.below hb⟩
/-! ### An element, cell by cell, as the walk spells it -/
section
variable {w : World} {A : Option Addr} {k n c : Nat}
theorem str_all {l : List ByteArray} (h : Sl strL w (.slice A n c) l) (hn : 0 < l.length) :
 ∃ b o, A = some ⟨b, o, none⟩ /\ ∀ k d, l[k]? = some d -> Sm d /\ w.cell? ⟨b, o + k, none⟩ = some (.string d) := by
 obtain ⟨b, o, hA, hall⟩ := h.all hn
 refine ⟨b, o, hA, fun k d hk => ?_⟩
 obtain ⟨cs, ⟨rfl, ok⟩, hx⟩ := hall k d hk
 exact ⟨ok, by simpa [strL, flatL] using hx 0 _ rfl⟩
theorem str_at {l : List ByteArray} (h : Sl strL w (.slice A n c) l) {d : ByteArray} (hk : l[k]? = some d) :
 ∃ b o, A = some ⟨b, o, none⟩ /\ Sm d /\ w.cell? ⟨b, o + k, none⟩ = some (.string d) := by
 obtain ⟨b, o, hA, hall⟩ := str_all h (len_pos hk)
 exact ⟨b, o, hA, hall k d hk⟩
theorem int_all {l : List Int} (h : Sl intL w (.slice A n c) l) (hn : 0 < l.length) :
 ∃ b o, A = some ⟨b, o, none⟩ /\ ∀ k d, l[k]? = some d -> I64 d /\ w.cell? ⟨b, o + k, none⟩ = some (.int .i64 d) := by
 obtain ⟨b, o, hA, hall⟩ := h.all hn
 refine ⟨b, o, hA, fun k d hk => ?_⟩
 obtain ⟨cs, ⟨rfl, ok⟩, hx⟩ := hall k d hk
 exact ⟨ok, by simpa [intL, flatL] using hx 0 _ rfl⟩
theorem int_at {l : List Int} (h : Sl intL w (.slice A n c) l) {d : Int} (hk : l[k]? = some d) :
 ∃ b o, A = some ⟨b, o, none⟩ /\ I64 d /\ w.cell? ⟨b, o + k, none⟩ = some (.int .i64 d) := by
 obtain ⟨b, o, hA, hall⟩ := int_all h (len_pos hk)
 exact ⟨b, o, hA, hall k d hk⟩
theorem byte_all {l : List UInt8} (h : Sl byteL w (.slice A n c) l) (hn : 0 < l.length) :
 ∃ b o, A = some ⟨b, o, none⟩ /\ ∀ k d, l[k]? = some d -> w.cell? ⟨b, o + k, none⟩ = some (.int .u8 d.toNat) := by
 obtain ⟨b, o, hA, hall⟩ := h.all hn
 refine ⟨b, o, hA, fun k d hk => ?_⟩
 obtain ⟨cs, ⟨rfl, ok⟩, hx⟩ := hall k d hk
 simpa [byteL, flatL] using hx 0 _ rfl
theorem byte_at {l : List UInt8} (h : Sl byteL w (.slice A n c) l) {d : UInt8} (hk : l[k]? = some d) :
 ∃ b o, A = some ⟨b, o, none⟩ /\ w.cell? ⟨b, o + k, none⟩ = some (.int .u8 d.toNat) := by
 obtain ⟨b, o, hA, hall⟩ := byte_all h (len_pos hk)
 exact ⟨b, o, hA, hall k d hk⟩
theorem prp_all {l : List Prp} (h : Sl prpL w (.slice A n c) l) (hn : 0 < l.length) :
 ∃ b o, A = some ⟨b, o, none⟩ /\ ∀ k d, l[k]? = some d -> d.ok /\ w.cell? ⟨b, o + k * 4, none⟩ = some (.string d.name) /\ w.cell? ⟨b, o + k * 4 + 1, none⟩ = some (.int .i64 d.v.ty) /\ w.cell? ⟨b, o + k * 4 + 2, none⟩ = some (.int .i64 d.v.n) /\ w.cell? ⟨b, o + k * 4 + 3, none⟩ = some (.string d.v.s) := by
 obtain ⟨b, o, hA, hall⟩ := h.all hn
 refine ⟨b, o, hA, fun k d hk => ?_⟩
 obtain ⟨cs, ⟨rfl, ok⟩, hx⟩ := hall k d hk
 exact ⟨ok, hx 0 _ rfl, hx 1 _ rfl, hx 2 _ rfl, hx 3 _ rfl⟩
theorem prp_at {l : List Prp} (h : Sl prpL w (.slice A n c) l) {d : Prp} (hk : l[k]? = some d) :
 ∃ b o, A = some ⟨b, o, none⟩ /\ d.ok /\ w.cell? ⟨b, o + k * 4, none⟩ = some (.string d.name) /\ w.cell? ⟨b, o + k * 4 + 1, none⟩ = some (.int .i64 d.v.ty) /\ w.cell? ⟨b, o + k * 4 + 2, none⟩ = some (.int .i64 d.v.n) /\ w.cell? ⟨b, o + k * 4 + 3, none⟩ = some (.string d.v.s) := by
 obtain ⟨b, o, hA, hall⟩ := prp_all h (len_pos hk)
 exact ⟨b, o, hA, hall k d hk⟩
theorem fld_all {l : List Fld} (h : Sl fldL w (.slice A n c) l) (hn : 0 < l.length) :
 ∃ b o, A = some ⟨b, o, none⟩ /\ ∀ k d, l[k]? = some d -> d.ok /\ w.cell? ⟨b, o + k * 4, none⟩ = some (.string d.name) /\ w.cell? ⟨b, o + k * 4 + 1, none⟩ = some (.int .i64 d.ty) /\ w.cell? ⟨b, o + k * 4 + 2, none⟩ = some (.bool d.must) /\ w.cell? ⟨b, o + k * 4 + 3, none⟩ = some (.bool d.key) := by
 obtain ⟨b, o, hA, hall⟩ := h.all hn
 refine ⟨b, o, hA, fun k d hk => ?_⟩
 obtain ⟨cs, ⟨rfl, ok⟩, hx⟩ := hall k d hk
 exact ⟨ok, hx 0 _ rfl, hx 1 _ rfl, hx 2 _ rfl, hx 3 _ rfl⟩
theorem fld_at {l : List Fld} (h : Sl fldL w (.slice A n c) l) {d : Fld} (hk : l[k]? = some d) :
 ∃ b o, A = some ⟨b, o, none⟩ /\ d.ok /\ w.cell? ⟨b, o + k * 4, none⟩ = some (.string d.name) /\ w.cell? ⟨b, o + k * 4 + 1, none⟩ = some (.int .i64 d.ty) /\ w.cell? ⟨b, o + k * 4 + 2, none⟩ = some (.bool d.must) /\ w.cell? ⟨b, o + k * 4 + 3, none⟩ = some (.bool d.key) := by
 obtain ⟨b, o, hA, hall⟩ := fld_all h (len_pos hk)
 exact ⟨b, o, hA, hall k d hk⟩
theorem bnd_all {l : List Bnd} (h : Sl bndL w (.slice A n c) l) (hn : 0 < l.length) :
 ∃ b o, A = some ⟨b, o, none⟩ /\ ∀ k d, l[k]? = some d -> d.ok /\ w.cell? ⟨b, o + k * 5, none⟩ = some (.string d.name) /\ w.cell? ⟨b, o + k * 5 + 1, none⟩ = some (.string d.src) /\ w.cell? ⟨b, o + k * 5 + 2, none⟩ = some (.string d.dst) /\ w.cell? ⟨b, o + k * 5 + 3, none⟩ = some (.int .i64 d.mn) /\ w.cell? ⟨b, o + k * 5 + 4, none⟩ = some (.int .i64 d.mx) := by
 obtain ⟨b, o, hA, hall⟩ := h.all hn
 refine ⟨b, o, hA, fun k d hk => ?_⟩
 obtain ⟨cs, ⟨rfl, ok⟩, hx⟩ := hall k d hk
 exact ⟨ok, hx 0 _ rfl, hx 1 _ rfl, hx 2 _ rfl, hx 3 _ rfl, hx 4 _ rfl⟩
theorem bnd_at {l : List Bnd} (h : Sl bndL w (.slice A n c) l) {d : Bnd} (hk : l[k]? = some d) :
 ∃ b o, A = some ⟨b, o, none⟩ /\ d.ok /\ w.cell? ⟨b, o + k * 5, none⟩ = some (.string d.name) /\ w.cell? ⟨b, o + k * 5 + 1, none⟩ = some (.string d.src) /\ w.cell? ⟨b, o + k * 5 + 2, none⟩ = some (.string d.dst) /\ w.cell? ⟨b, o + k * 5 + 3, none⟩ = some (.int .i64 d.mn) /\ w.cell? ⟨b, o + k * 5 + 4, none⟩ = some (.int .i64 d.mx) := by
 obtain ⟨b, o, hA, hall⟩ := bnd_all h (len_pos hk)
 exact ⟨b, o, hA, hall k d hk⟩
theorem tie_all {l : List Tie} (h : Sl tieL w (.slice A n c) l) (hn : 0 < l.length) :
 ∃ b o, A = some ⟨b, o, none⟩ /\ ∀ k d, l[k]? = some d -> d.ok /\ w.cell? ⟨b, o + k * 3, none⟩ = some (.string d.bond) /\ w.cell? ⟨b, o + k * 3 + 1, none⟩ = some (.int .i64 d.src) /\ w.cell? ⟨b, o + k * 3 + 2, none⟩ = some (.int .i64 d.dst) := by
 obtain ⟨b, o, hA, hall⟩ := h.all hn
 refine ⟨b, o, hA, fun k d hk => ?_⟩
 obtain ⟨cs, ⟨rfl, ok⟩, hx⟩ := hall k d hk
 exact ⟨ok, hx 0 _ rfl, hx 1 _ rfl, hx 2 _ rfl⟩
theorem tie_at {l : List Tie} (h : Sl tieL w (.slice A n c) l) {d : Tie} (hk : l[k]? = some d) :
 ∃ b o, A = some ⟨b, o, none⟩ /\ d.ok /\ w.cell? ⟨b, o + k * 3, none⟩ = some (.string d.bond) /\ w.cell? ⟨b, o + k * 3 + 1, none⟩ = some (.int .i64 d.src) /\ w.cell? ⟨b, o + k * 3 + 2, none⟩ = some (.int .i64 d.dst) := by
 obtain ⟨b, o, hA, hall⟩ := tie_all h (len_pos hk)
 exact ⟨b, o, hA, hall k d hk⟩
theorem nod_all {l : List Nod} (h : Sl nodL w (.slice A n c) l) (hn : 0 < l.length) :
 ∃ b o, A = some ⟨b, o, none⟩ /\ ∀ k d, l[k]? = some d -> ∃ u, I64 d.id /\ Sm d.kind /\ Sl prpL w u d.props /\ w.cell? ⟨b, o + k * 3, none⟩ = some (.int .i64 d.id) /\ w.cell? ⟨b, o + k * 3 + 1, none⟩ = some (.string d.kind) /\ w.cell? ⟨b, o + k * 3 + 2, none⟩ = some u := by
 obtain ⟨b, o, hA, hall⟩ := h.all hn
 refine ⟨b, o, hA, fun k d hk => ?_⟩
 obtain ⟨cs, ⟨u, rfl, e1, e2, ok⟩, hx⟩ := hall k d hk
 exact ⟨u, e1, e2, ok, hx 0 _ rfl, hx 1 _ rfl, hx 2 _ rfl⟩
theorem nod_at {l : List Nod} (h : Sl nodL w (.slice A n c) l) {d : Nod} (hk : l[k]? = some d) :
 ∃ b o, A = some ⟨b, o, none⟩ /\ ∃ u, I64 d.id /\ Sm d.kind /\ Sl prpL w u d.props /\ w.cell? ⟨b, o + k * 3, none⟩ = some (.int .i64 d.id) /\ w.cell? ⟨b, o + k * 3 + 1, none⟩ = some (.string d.kind) /\ w.cell? ⟨b, o + k * 3 + 2, none⟩ = some u := by
 obtain ⟨b, o, hA, hall⟩ := nod_all h (len_pos hk)
 exact ⟨b, o, hA, hall k d hk⟩
theorem knd_all {l : List Knd} (h : Sl kndL w (.slice A n c) l) (hn : 0 < l.length) :
 ∃ b o, A = some ⟨b, o, none⟩ /\ ∀ k d, l[k]? = some d -> ∃ u x, Sm d.name /\ Sl strL w u d.ofs /\ Sl fldL w x d.fields /\ w.cell? ⟨b, o + k * 3, none⟩ = some (.string d.name) /\ w.cell? ⟨b, o + k * 3 + 1, none⟩ = some u /\ w.cell? ⟨b, o + k * 3 + 2, none⟩ = some x := by
 obtain ⟨b, o, hA, hall⟩ := h.all hn
 refine ⟨b, o, hA, fun k d hk => ?_⟩
 obtain ⟨cs, ⟨u, x, rfl, e1, e2, e3⟩, hx⟩ := hall k d hk
 exact ⟨u, x, e1, e2, e3, hx 0 _ rfl, hx 1 _ rfl, hx 2 _ rfl⟩
theorem knd_at {l : List Knd} (h : Sl kndL w (.slice A n c) l) {d : Knd} (hk : l[k]? = some d) :
 ∃ b o, A = some ⟨b, o, none⟩ /\ ∃ u x, Sm d.name /\ Sl strL w u d.ofs /\ Sl fldL w x d.fields /\ w.cell? ⟨b, o + k * 3, none⟩ = some (.string d.name) /\ w.cell? ⟨b, o + k * 3 + 1, none⟩ = some u /\ w.cell? ⟨b, o + k * 3 + 2, none⟩ = some x := by
 obtain ⟨b, o, hA, hall⟩ := knd_all h (len_pos hk)
 exact ⟨b, o, hA, hall k d hk⟩
end
theorem sl_ints {W : World} {b : Nat} {t : TypeId} {fr : Nat × Nat} (l : List Int) (hl : ∀ x ∈ l, I64 x) (c : Nat) (h1 : l.length <= c) (h2 : c <= maxLen) (h : W.heap[b]? = some (.cells (l.map (Value.int .i64)).toArray t fr)) : Sl intL W (.slice (some ⟨b, 0, none⟩) l.length c) l := by
 refine ⟨_, c, rfl, h1, h2, fun i d hi => ⟨b, 0, _, rfl, ⟨rfl, hl d (List.mem_of_getElem? hi)⟩, fun j u hj => ?_⟩⟩
 rw [cell_of_row W b _ _ t fr h]
 match j, hj with
 | 0, hj =>
  simp at hj
  subst hj
  simp [intL, flatL, hi]
/-! ### Small words for walks -/
theorem ret_int {k : IntKind} {a b : Int} (h : a = b) : Ending.returned (.int k a) = .returned (.int k b) := by rw [h]
theorem ret_bool {a b : Bool} (h : a = b) : Ending.returned (.bool a) = .returned (.bool b) := by rw [h]
theorem bcell {W w1 : World} (hb : Below W.heap.size W w1) : (∀ b o, b < W.heap.size -> w1.cell? ⟨b, o, none⟩ = W.cell? ⟨b, o, none⟩) /\ (∀ b o, b < W.heap.size -> w1.frozen? ⟨b, o, none⟩ = W.frozen? ⟨b, o, none⟩) :=
 ⟨fun b o h => hb.cell (p := ⟨b, o, none⟩) h, fun b o h => hb.frozen (p := ⟨b, o, none⟩) h⟩
def errV (k : Int) : Value := if k = 0 then .nilIface else .iface 122 (.int .i64 k)
theorem errV_zero {k : Int} (h : k = 0) : errV k = .nilIface := by simp [errV, h]
theorem errV_some {k : Int} (h : k ≠ 0) : errV k = .iface 122 (.int .i64 k) := by simp [errV, h]
def Own (w : World) (B : Nat) (e : TypeId) (sz : Nat) (v : Value) (n : Nat) (xs : List Value) : Prop :=
 xs.length = n * sz /\
 ((v = .slice none 0 0 /\ n = 0) \/
  ∃ g o cap cur, v = .slice (some ⟨g, o, none⟩) n cap /\ B <= g /\ w.heap[g]? = some (.cells cur e (0, 0)) /\ n <= cap /\ cap <= maxLen /\ o + cap * sz <= cur.size /\ (cur.toList.drop o).take (n * sz) = xs)
section
variable {w w' : World} {B : Nat} {e : TypeId} {sz : Nat} {v : Value} {n : Nat} {xs : List Value}
theorem Own.nil (w : World) (B : Nat) (e : TypeId) (sz : Nat) : Own w B e sz (.slice none 0 0) 0 [] := ⟨by simp, .inl ⟨rfl, rfl⟩⟩
theorem Own.form (h : Own w B e sz v n xs) : ∃ A c, v = .slice A n c /\ n <= c /\ c <= maxLen := by
 rcases h.2 with ⟨rfl, rfl⟩ | ⟨g, o, cap, cur, rfl, _, _, h1, h2, _⟩
 ·exact ⟨none, 0, rfl, Nat.le_refl _, Nat.zero_le _⟩
 exact ⟨_, _, rfl, h1, h2⟩
theorem Own.lt (h : Own w B e sz v n xs) : ∀ k, v.ownBlock = some k -> B <= k /\ k < w.heap.size := by
 intro k hk
 rcases h.2 with ⟨rfl, _⟩ | ⟨g, o, cap, cur, rfl, hb, hg, _⟩
 ·simp [Value.ownBlock] at hk
 simp [Value.ownBlock] at hk
 subst hk
 exact ⟨hb, (geB hg)⟩
theorem Own.keep (h : Own w B e sz v n xs) (hk : ∀ k, v.ownBlock = some k -> w'.heap[k]? = w.heap[k]?) : Own w' B e sz v n xs := by
 refine ⟨h.1, ?_⟩
 rcases h.2 with hn | ⟨g, o, cap, cur, rfl, hb, hg, rest⟩
 ·exact .inl hn
 exact .inr ⟨g, o, cap, cur, rfl, hb, (hk g (by simp [Value.ownBlock])).trans hg, rest⟩
theorem Own.below (h : Own w B e sz v n xs) (hb : Below w.heap.size w w') : Own w' B e sz v n xs :=
 h.keep fun k hk => hb.block k (h.lt k hk).2
theorem Own.alloc (h : Own w B e sz v n xs) (o : Obj) : Own (w.alloc o) B e sz v n xs :=
 h.keep fun k hk => Below.heap_alloc w o k (h.lt k hk).2
theorem Own.drewN (h : Own w B e sz v n xs) (k : Nat) : Own (w.drewN k) B e sz v n xs := h
theorem Own.grown {row : Option Nat} (h : Own w B e sz v n xs) (hg : w.grownBy w' row) (hne : v.ownBlock = none \/ v.ownBlock ≠ row) : Own w' B e sz v n xs :=
 h.keep fun k hk => hg.block k (h.lt k hk).2 (by rw [<- hk]; rcases hne with h0 | h0; (· rw [hk] at h0; cases h0); exact h0)
theorem Own.mono {B' : Nat} (h : Own w B e sz v n xs) (hB : B' <= B) : Own w B' e sz v n xs := by
 refine ⟨h.1, ?_⟩
 rcases h.2 with hn | ⟨g, o, cap, cur, rfl, hb, rest⟩
 ·exact .inl hn
 exact .inr ⟨g, o, cap, cur, rfl, by omega, rest⟩
theorem Own.cell (h : Own w B e sz v n xs) {g o c : Nat} (hv : v = .slice (some ⟨g, o, none⟩) n c) {j : Nat} {u : Value} (hj : xs[j]? = some u) : w.cell? ⟨g, o + j, none⟩ = some u := by
 rcases h.2 with ⟨rfl, _⟩ | ⟨g', o', cap, cur, rfl, _, hg, _, _, hcs, ht⟩
 ·cases hv
 injection hv with h1 _ _
 injection h1 with h1
 injection h1 with h1 h2
 subst h1; subst h2
 rw [cell_of_row w g' _ cur e (0, 0) hg]
 rw [<- ht, List.getElem?_take] at hj
 split at hj
 ·rw [List.getElem?_drop] at hj; simpa using hj
 cases hj
theorem Own.frozen (h : Own w B e sz v n xs) {g o c : Nat} (hv : v = .slice (some ⟨g, o, none⟩) n c) (j : Nat) : w.frozen? ⟨g, j, none⟩ = false := by
 rcases h.2 with ⟨rfl, _⟩ | ⟨g', o', cap, cur, rfl, _, hg, _⟩
 ·cases hv
 injection hv with h1 _ _
 injection h1 with h1
 injection h1 with h1 h2
 subst h1
 simp [World.frozen?, hg]
theorem Own.addr (h : Own w B e sz v n xs) (hn : 0 < n) : ∃ g o c, v = .slice (some ⟨g, o, none⟩) n c /\ B <= g /\ g < w.heap.size := by
 rcases h.2 with ⟨_, h0⟩ | ⟨g, o, cap, cur, rfl, hb, hg, _⟩
 ·omega
 exact ⟨g, o, cap, rfl, hb, (geB hg)⟩
theorem Own.store {g o c : Nat} (h : Own w B e sz (.slice (some ⟨g, o, none⟩) n c) n xs) (j : Nat) (hj : j < n * sz) (u : Value) : Own (w.setCell ⟨g, o + j, none⟩ u) B e sz (.slice (some ⟨g, o, none⟩) n c) n (xs.set j u) := by
 refine ⟨by rw [List.length_set]; exact h.1, ?_⟩
 rcases h.2 with ⟨h0, _⟩ | ⟨g', o', cap, cur, hv, hb, hg, h1, h2, h3, ht⟩
 ·cases h0
 injection hv with e1 _ e3
 injection e1 with e1
 injection e1 with e1 e2
 subst e1; subst e2; subst e3
 refine .inr ⟨g, o, c, cur.setIfInBounds (o + j) u, rfl, hb, ?_, h1, h2, by simpa using h3, ?_⟩
 ·simp [World.setCell, Array.getElem?_modify, hg]
 have hle : n * sz <= c * sz := Nat.mul_le_mul_right _ h1
 rw [<- ht]
 apply List.ext_getElem?
 intro i
 simp only [List.getElem?_take, List.getElem?_drop, Array.toList_setIfInBounds, List.getElem?_set]
 by_cases hij : j = i
 ·subst hij
  have hoj : o + j < cur.size := by omega
  have hjx : j < (List.take (n * sz) (List.drop o cur.toList)).length := by simp; omega
  simp [hj, hoj]
  omega
 simp [hij]
end
theorem grownBy_refl (w : World) (row : Option Nat) : w.grownBy w row := ⟨rfl, rfl, rfl, Nat.le_refl _, fun _ _ _ => rfl⟩
section
variable {P : Program} (w : World)
theorem run_append_at (t ty e : TypeId) (i : TypeInfo) (ht : P.underlying t = some (.slice e)) (hi : P.info? e = some i)
 (g o sLen sCap : Nat) (cur : Array Value) (hg : w.heap[g]? = some (.cells cur e (0, 0)))
 (a : Addr) (m c : Nat) (news : List Value) (hl : news.length = m * i.size) (hnews : ∀ j u, news[j]? = some u -> w.cell? (a.add j) = some u) (h1 : ∀ u ∈ news, u.oneCell' = true)
 (hroom : sLen + m <= sCap) (hfit : o + sLen * i.size + news.length <= cur.size) :
 (Builtin.append_ #[t, t] ty #[.slice (some ⟨g, o, none⟩) sLen sCap, .slice (some a) m c]).run P w =
   .ok (.slice (some ⟨g, o, none⟩) (sLen + m) sCap) (w.setRow g (cur.toList.take (o + sLen * i.size) ++ news ++ cur.toList.drop (o + sLen * i.size + news.length)).toArray) := by
 have hf := run_firstCells_some (P := P) w i.size m a m c news hl hnews
 have hst := run_storeCells_at P g (o + sLen * i.size) e news 0 cur w hg (by simpa using hfit) h1
 simp only [Nat.add_zero] at hst
 have hadd : (⟨g, o, none⟩ : Addr).add (sLen * i.size) = ⟨g, o + sLen * i.size, none⟩ := by unfold Addr.add; split <;> simp_all
 simp [Builtin.append_, run_underlying ht, sizeOf, typeInfo, hi, Builtin.lenOf, hroom, hf, hadd, hst]
theorem run_append_q (B : Nat) (t ty e : TypeId) (i : TypeInfo) (z : Value) (size bytes : Nat) (ht : P.underlying t = some (.slice e)) (hi : P.info? e = some i) (hz : i.zero = some z)
 (hsize : i.size = size) (hby : i.bytes = bytes) (hzs : z.cells.size = size) (hsz : 0 < size)
 (v : Value) (n : Nat) (xs : List Value) (hown : Own w B e size v n xs)
 (A : Option Addr) (m c : Nat) (news : List Value) (hl : news.length = m * size) (hA : 0 < m -> ∃ a, A = some a /\ ∀ j u, news[j]? = some u -> w.cell? (a.add j) = some u) (h1 : ∀ u ∈ news, u.oneCell' = true)
 (h63 : n + m <= maxLen) (hbytes : (n + m) * bytes <= 140737488355328) (hbase : B <= w.heap.size) :
 ∃ v' w', (Builtin.append_ #[t, t] ty #[v, .slice A m c]).run P w = .ok v' w' /\ Own w' B e size v' (n + m) (xs ++ news) /\ w.grownBy w' v.ownBlock /\ (v'.ownBlock = v.ownBlock \/ v'.ownBlock = some w.heap.size) := by
 subst hsize
 subst hby
 have hsmall : n + m <= 9223372036854775807 := by simp only [maxLen] at h63; omega
 have hlen : (xs ++ news).length = (n + m) * i.size := by rw [List.length_append, hown.1, hl, Nat.add_mul]
 have grown : ∀ (old : Nat), old < n + m -> ∀ (row : Option Nat),
  Own (w.drew.alloc (.cells (xs.toArray ++ news.toArray ++ Builtin.zeroCells z.cells (grownCap w (n + m) old e - (n + m))) e)) B e i.size
   (.slice (some ⟨w.heap.size, 0, none⟩) (n + m) (grownCap w (n + m) old e)) (n + m) (xs ++ news) /\
  w.grownBy (w.drew.alloc (.cells (xs.toArray ++ news.toArray ++ Builtin.zeroCells z.cells (grownCap w (n + m) old e - (n + m))) e)) row := by
  intro old ho row
  have hge := grownCap_ge w (n + m) old e
  have hcm : grownCap w (n + m) old e <= maxLen := grownCap_le_maxLen w (n + m) old e h63
  refine ⟨⟨hlen, .inr ⟨w.heap.size, 0, _, _, rfl, hbase, heap_alloc_new w.drew _, hge, hcm, ?_, ?_⟩⟩, ⟨rfl, rfl, rfl, by simp, fun k hk _ => Below.heap_alloc w.drew _ k hk⟩⟩
  ·simp only [Array.size_append, List.size_toArray, size_zeroCells, hzs, hown.1, hl, <- Nat.add_mul]
   have : n + m + (grownCap w (n + m) old e - (n + m)) = grownCap w (n + m) old e := by omega
   rw [this]; omega
  simp only [Array.toList_append, List.append_assoc, List.drop_zero]
  rw [<- List.append_assoc, <- hlen]
  exact List.take_left
 by_cases hm : m = 0
 ·subst hm
  have hn : news = [] := List.eq_nil_of_length_eq_zero (by simpa using hl)
  subst hn
  refine ⟨v, w, ?_, by simpa using hown, grownBy_refl w _, Or.inl rfl⟩
  rcases hown.2 with ⟨rfl, rfl⟩ | ⟨g, o, cap, cur, rfl, _, hg, hnc, _⟩
  ·cases A <;> simp [Builtin.append_, run_underlying ht, sizeOf, typeInfo, hi, Builtin.lenOf, Builtin.firstCells, loadCells, loadCellsFrom]
  cases A <;> simp [Builtin.append_, run_underlying ht, sizeOf, typeInfo, hi, Builtin.lenOf, Builtin.firstCells, loadCells, loadCellsFrom, hnc, storeCells]
 obtain ⟨a, rfl, hnews⟩ := hA (by omega)
 rcases hown.2 with ⟨rfl, rfl⟩ | ⟨g, o, cap, cur, rfl, hbg, hg, hnc, hcm, hcs, htake⟩
 ·have hx : xs = [] := List.eq_nil_of_length_eq_zero (by simpa using hown.1)
  subst hx
  have hr := run_append_nil (P := P) w t ty e i z ht hi hz a m c news hl hnews (by omega) (by omega) (by have hb := hbytes; simp only [Nat.zero_add] at hb; omega)
  have hgr := grown 0 (by omega) (Value.ownBlock (.slice none 0 0))
  simp only [Nat.zero_add, List.nil_append, Array.empty_append] at hgr ⊢
  exact ⟨_, _, hr, hgr.1, hgr.2, Or.inr rfl⟩
 by_cases hroom : n + m <= cap
 ·have hle : (n + m) * i.size <= cap * i.size := Nat.mul_le_mul_right _ hroom
  have hnm : n * i.size + news.length = (n + m) * i.size := by rw [hl, <- Nat.add_mul]
  have hfit : o + n * i.size + news.length <= cur.size := by omega
  have hr := run_append_at (P := P) w t ty e i ht hi g o n cap cur hg a m c news hl hnews h1 hroom hfit
  refine ⟨_, _, hr, ⟨hlen, .inr ⟨g, o, cap, _, rfl, hbg, setRow_heap w g cur _ e _ hg, hroom, hcm, ?_, ?_⟩⟩, ⟨rfl, rfl, rfl, by simp, fun k _ hk => setRow_other w g k _ (fun e => hk (by simp [Value.ownBlock, e]))⟩, Or.inl rfl⟩
  ·simp only [List.size_toArray, List.length_append, List.length_take, List.length_drop, Array.length_toList]
   omega
  simp only [List.append_assoc]
  rw [List.drop_append_of_le_length (by simp; omega), <- List.append_assoc]
  have e1 : (cur.toList.take (o + n * i.size)).drop o = xs := by rw [List.drop_take, <- htake]; congr 1; omega
  rw [e1, <- hlen]
  exact List.take_left
 have holds : ∀ j u, xs[j]? = some u -> w.cell? ((⟨g, o, none⟩ : Addr).add j) = some u := by
  intro j u hj
  have hadd : (⟨g, o, none⟩ : Addr).add j = ⟨g, o + j, none⟩ := by unfold Addr.add; split <;> simp_all
  rw [hadd]
  exact hown.cell rfl hj
 have hr := run_append_grow (P := P) w t ty e i z ht hi hz ⟨g, o, none⟩ n cap xs hown.1 holds a m c news hl hnews (by omega) (by omega) (growslice_fits (by omega) hbytes)
 have hgr := grown cap (by omega) (Value.ownBlock (.slice (some ⟨g, o, none⟩) n cap))
 exact ⟨_, _, hr, hgr.1, hgr.2, Or.inr rfl⟩
theorem wp_append_q {o : Oper} {a : Act} {K : Act -> World -> Prop} {Q : Exit -> Act -> World -> Prop} (s x : Operand) (t : TypeId)
 (ho : o.op = .call { callee := .builtin .append, args := #[s, x], argTypes := #[t, t] })
 (B : Nat) (e : TypeId) (i : TypeInfo) (z : Value) (size bytes : Nat) (ht : P.underlying t = some (.slice e)) (hi : P.info? e = some i) (hz : i.zero = some z)
 (hsize : i.size = size) (hby : i.bytes = bytes) (hzs : z.cells.size = size) (hsz : 0 < size)
 (v : Value) (n : Nat) (xs : List Value) (hs : a.eval s = v) (hown : Own w B e size v n xs)
 (A : Option Addr) (m c : Nat) (news : List Value) (hx : a.eval x = .slice A m c) (hl : news.length = m * size) (hA : 0 < m -> ∃ a, A = some a /\ ∀ j u, news[j]? = some u -> w.cell? (a.add j) = some u) (h1 : ∀ u ∈ news, u.oneCell' = true)
 (h63 : n + m <= maxLen) (hbytes : (n + m) * bytes <= 140737488355328) (hbase : B <= w.heap.size)
 (h : ∀ v' w', Own w' B e size v' (n + m) (xs ++ news) -> w.grownBy w' v.ownBlock -> (v'.ownBlock = v.ownBlock \/ v'.ownBlock = some w.heap.size) -> K (a.put o.dst v') w') : o.wp P a w K Q := by
 obtain ⟨v', w', hr, h2, h3, h4⟩ := run_append_q (P := P) w B t o.type e i z size bytes ht hi hz hsize hby hzs hsz v n xs hown A m c news hl hA h1 h63 hbytes hbase
 unfold Oper.wp execOp
 simp only [ho, resolve, invoke, builtin, Sem.run_bind, Sem.run_pure, Result.andThen_ok, List.map_toArray, List.map_cons, List.map_nil, hs, hx, hr]
 exact h v' w' h2 h3 h4
theorem wpList_append_q {ops : Array Oper} {rest : List Oper} {o : Oper} {a : Act} {Q : Exit -> Act -> World -> Prop} (hgd : o.guard = none) (s x : Operand) (t : TypeId)
 (ho : o.op = .call { callee := .builtin .append, args := #[s, x], argTypes := #[t, t] })
 (B : Nat) (e : TypeId) (i : TypeInfo) (z : Value) (size bytes : Nat) (ht : P.underlying t = some (.slice e)) (hi : P.info? e = some i) (hz : i.zero = some z)
 (hsize : i.size = size) (hby : i.bytes = bytes) (hzs : z.cells.size = size) (hsz : 0 < size)
 (v : Value) (n : Nat) (xs : List Value) (hs : a.eval s = v) (hown : Own w B e size v n xs)
 (A : Option Addr) (m c : Nat) (news : List Value) (hx : a.eval x = .slice A m c) (hl : news.length = m * size) (hA : 0 < m -> ∃ a, A = some a /\ ∀ j u, news[j]? = some u -> w.cell? (a.add j) = some u) (h1 : ∀ u ∈ news, u.oneCell' = true)
 (h63 : n + m <= maxLen) (hbytes : (n + m) * bytes <= 140737488355328) (hbase : B <= w.heap.size)
 (h : ∀ v' w', Own w' B e size v' (n + m) (xs ++ news) -> w.grownBy w' v.ownBlock -> (v'.ownBlock = v.ownBlock \/ v'.ownBlock = some w.heap.size) -> wpList P ops Q rest (a.put o.dst v') w') : wpList P ops Q (o :: rest) a w :=
 wpList_plain hgd fun _ hK => wp_append_q w s x t ho B e i z size bytes ht hi hz hsize hby hzs hsz v n xs hs hown A m c news hx hl hA h1 h63 hbytes hbase fun v' w' h2 h3 h4 => hK _ _ (h v' w' h2 h3 h4)
end
theorem Own.ints {w : World} {B : Nat} {e : TypeId} {v : Value} {l : List Int} (hl : ∀ x ∈ l, I64 x) (h : Own w B e 1 v l.length (l.map (Value.int .i64))) : Sl intL w v l := by
 obtain ⟨A, c, rfl, h1, h2⟩ := h.form
 refine ⟨A, c, rfl, h1, h2, fun i d hi => ?_⟩
 obtain ⟨g, o, c', hv, _, _⟩ := h.addr (len_pos hi)
 injection hv with hA _ hc
 subst hA; subst hc
 refine ⟨g, o, _, rfl, ⟨rfl, hl d (List.mem_of_getElem? hi)⟩, fun j u hj => ?_⟩
 match j, hj with
 | 0, hj =>
  simp at hj
  subst hj
  have := h.cell rfl (j := i) (u := .int .i64 d) (by simp [hi])
  simpa [intL, flatL] using this
open Go Go.RowKit Go.BigFrame
def noDefB (ops : Array Oper) : Bool := ops.toList.all fun o => match o.op with | .defer _ => false | _ => true
theorem noDef_spec {ops : Array Oper} (h : noDefB ops = true) {i : Nat} {o : Oper} (ho : ops[i]? = some o) : ∀ c, o.op ≠ .defer c := by
 intro c hc
 have hm : o ∈ ops.toList := by rw [Array.mem_toList_iff]; exact Array.mem_of_getElem? ho
 have := List.all_eq_true.1 h o hm
 simp [hc] at this
section
variable {F : Fence} {n : Nat} {P : Program} {ops : Array Oper} {md : Region.Mode} {C : World -> Prop}
theorem semAt_any {o : Oper} (ro : Option Nat) (ρ : Operand -> Value) (h : ∀ c, o.op ≠ .defer c) : o.semAt ro ρ = execOp ρ o := by
 cases ro with
 | none => rfl
 | some l => exact Oper.semAt_some l ρ o h
theorem wpIn_of_quietR {o : Oper} {a : Act} {K : Act -> Prop} {K' : Act -> World -> Prop} {Q' : Exit -> Act -> World -> Prop} {w : World} (hnd : ∀ c, o.op ≠ .defer c) (hw : C w) (h : ∀ a w', C w' -> K a -> K' a w')
 (ha : o.askedIn F P a C) (hh : o.quietIn F n P a C K) : o.wpIn F n P a w K' Q' := by
 obtain ⟨v, h1, h2⟩ := hh
 have h3 := h1 w hw
 unfold Oper.quietAtIn at h3
 unfold Oper.wpIn
 refine ⟨ha w hw, ?_⟩
 rw [semAt_any _ _ hnd]
 generalize (execOp a.eval o).run P w = r at *
 cases r with
 | ok x w' =>
  cases x <;> simp only [Oper.quietUponIn] at h3 <;> simp only [Oper.uponIn]
  case value u =>
   obtain ⟨e1, e2⟩ := h3
   rw [e1, e2]
   exact h _ _ hw h2
  case skip =>
   obtain ⟨e1, e2⟩ := h3
   rw [e1, <- e2]
   exact h _ _ hw h2
  case enter f args =>
   obtain ⟨e1, hd, hc⟩ := h3
   rw [e1]
   exact ⟨hd, hc.mono fun e w'' ⟨he, hw''⟩ => by subst he; exact h _ _ hw'' h2⟩
 | halt x w' => simp only [Oper.quietUponIn] at h3
theorem wpOpIn_of_quietR {i : Nat} {a : Act} {K : Act -> Prop} {K' : Act -> World -> Prop} {Q' : Exit -> Act -> World -> Prop} {w : World} (hnd : noDefB ops = true) (hC : C w) (h : ∀ a w', C w' -> K a -> K' a w')
 (hh : qOpIn F n P ops C i K a) : wpOpIn F n P ops Q' i K' a w := by
 unfold qOpIn at hh
 unfold wpOpIn
 split
 ·rename_i ho; simp only [ho] at hh; exact h _ _ hC hh
 rename_i o ho
 simp only [ho] at hh
 obtain ⟨ha, hh⟩ := hh
 split
 ·rename_i hw; simp only [hw, if_true] at hh; exact wpIn_of_quietR (noDef_spec hnd ho) hC h ha hh
 rename_i hw; simp only [hw] at hh; exact ⟨ha w hC, h _ _ hC hh⟩
theorem wpAnyIn_of_quietR {Q : Act -> Prop} {Q' : Exit -> Act -> World -> Prop} (hnd : noDefB ops = true) (hQ : ∀ a w, C w -> Q a -> Q' .normal a w) : ∀ (fuel : Nat) (listed : Array Bool) (a : Act) (w : World), C w ->
 wpAnyQIn F n P md ops C Q fuel listed a -> wpAnyIn F n P md ops Q' fuel listed a w
 | 0, _, _, _, hw, h => ⟨h.1, hQ _ _ hw h.2⟩
 | fuel + 1, _, _, _, hw, h => ⟨fun h0 => hQ _ _ hw (h.1 h0), fun i hi => wpOpIn_of_quietR hnd hw (fun a' w' hw' => wpAnyIn_of_quietR hnd hQ fuel _ a' w' hw') (h.2 i hi)⟩
theorem wpIn_quiet_round {id : Nat} {Q : Exit -> Act -> World -> Prop} {a : Act} {w : World} {l : List Oper} (hnd : noDefB l.toArray = true) (hm : P.follows .mixedOrders = true) (hB : Region.lexB .any l.toArray = true)
 (h : wpQuietIn F n P l.toArray (fun w' => ∃ n, w' = w.drewN n) (fun a' => ∀ w', (∃ n, w' = w.drewN n) -> Q .normal a' w') l a) : (Code.region id l.toArray true).wpIn F n P Q a w := by
 simp only [Region.lexB, Bool.and_eq_true] at hB
 refine wpIn_region_any hm (wpAnyIn_of_quietR (C := fun w' => ∃ n, w' = w.drewN n) (Q := fun a' => ∀ w', (∃ n, w' = w.drewN n) -> Q .normal a' w') hnd (fun _ w' hw' h => h w' hw') _ _ _ _ ⟨1, rfl⟩ ?_)
 have := wpAnyQIn_lex (F := F) (n := n) (C := fun w' => ∃ n, w' = w.drewN n) (md := .any) hB.1 l 0 (Array.replicate l.toArray.size false) a (by simp) (by simpa using hB.2) h
 simpa using this
end
open Go Go.RowKit
open Go.Maps (Keyed)
/-! ### Kin -/
def kinStep (S : ByteArray -> Bool) (k : Knd) : ByteArray -> Bool := if S k.name = true then fun s => S s || k.ofs.any (fun o => decide (o = s)) else S
def kinSet (l : List Knd) (name : ByteArray) : ByteArray -> Bool := l.foldr (fun k S => kinStep S k) (fun s => decide (name = s))
def kinL (l : List Knd) (name : ByteArray) : List ByteArray := (l.filter fun k => kinSet l name k.name).map (·.name)
/-! ### A set of texts in memory -/
theorem plainElem_bool_inv {H : Type} {P : Program} {e : TypeId} (he : P.underlying e = some .bool) {v : Value} {z : DataW H × List MemPlace} (h : plainElem P e v = some z) : ∃ b, v = .bool b /\ z = (.lit (.bool b), []) := by
 unfold plainElem at h
 rw [he] at h
 cases v <;> simp at h
 exact ⟨_, rfl, h.symm⟩
theorem lit_ne {s t : ByteArray} (h : ¬ s = t) : (Lit.string s.data.toList) ≠ (Lit.string t.data.toList) := by
 intro e
 injection e with e
 have := Array.toList_inj.1 e
 exact h (by cases s; cases t; simp at this; rw [this])
def SetIs (D : DataW Unit) (S : ByteArray -> Bool) : Prop := Maps.IsMap D /\ ∀ s : ByteArray, s.size <= maxLen -> D.atKey (.string s.data.toList) (.lit (.bool false)) = .lit (.bool (S s))
theorem SetIs.empty : SetIs (.map []) (fun _ => false) := ⟨⟨[], rfl⟩, fun _ _ => rfl⟩
theorem SetIs.put {D : DataW Unit} {S : ByteArray -> Bool} (h : SetIs D S) {x : ByteArray} (hk : WideAt.IsKeyLit (.string x.data.toList)) : SetIs (D.put (.string x.data.toList) (.lit (.bool true))) (fun s => S s || decide (x = s)) := by
 refine ⟨h.1.put _ _, fun s hs => ?_⟩
 by_cases e : x = s
 ·subst e
  rw [Maps.atKey_put_same h.1 hk]
  simp
 rw [Maps.atKey_put_other (lit_ne (fun e' => e e'.symm)), h.2 s hs]
 simp [e]
def MapS (w : World) (b n : Nat) (S : ByteArray -> Bool) : Prop :=
 ∃ D : DataW Unit, w.ownsMap Tryz.prog 9 (plainElem Tryz.prog 4) b n D /\ SetIs D S
theorem zeroBool (w : World) : (zeroValue 4).run Tryz.prog w = .ok (.bool false) w := by kernel_rfl
theorem setLaw : Keyed Tryz.prog 9 := Maps.string_keyed Tryz.underlying9
theorem MapS.made (w : World) : MapS (w.alloc (.map #[] 0)) w.heap.size 0 (fun _ => false) := ⟨_, World.ownsMap_made w _ _ _, SetIs.empty⟩
theorem MapS.mono {w : World} {b n n' : Nat} {S : ByteArray -> Bool} (h : MapS w b n S) (hn : n <= n') : MapS w b n' S := by
 obtain ⟨D, h1, h2⟩ := h
 exact ⟨D, h1.mono hn, h2⟩
theorem MapS.kept {w w' : World} {b n : Nat} {S : ByteArray -> Bool} {row : Option Nat} (h : MapS w b n S) (hg : w.grownBy w' row) (hne : some b ≠ row) : MapS w' b n S := by
 obtain ⟨D, h1, h2⟩ := h
 exact ⟨D, h1.kept hg hne, h2⟩
theorem MapS.alloc {w : World} {b n : Nat} {S : ByteArray -> Bool} (h : MapS w b n S) (o : Obj) : MapS (w.alloc o) b n S := h.kept (World.grownBy_alloc w o none) (by simp)
theorem MapS.lt {w : World} {b n : Nat} {S : ByteArray -> Bool} (h : MapS w b n S) : b < w.heap.size := by
 obtain ⟨D, h1, _⟩ := h
 exact h1.lt
set_option maxRecDepth 100000 in
theorem MapS.look {w : World} {b n : Nat} {S : ByteArray -> Bool} (h : MapS w b n S) {s : ByteArray} (hs : s.size <= maxLen) :
 (Instr.lookup 281 (.map (some b)) (.string s) false).run Tryz.prog w = .ok (.bool (S s)) w := by
 obtain ⟨D, h1, h2⟩ := h
 obtain ⟨v, ps, hrun, hv⟩ := h1.lookup setLaw Tryz.underlying281 (zeroBool w) (plainElem_bool Tryz.underlying4 false) (WideMaps.keyOf_string_mk Tryz.underlying9 hs)
 obtain ⟨x, rfl, hx⟩ := plainElem_bool_inv Tryz.underlying4 hv
 rw [h2.2 s hs] at hx
 injection hx with hx _
 injection hx with hx
 injection hx with hx
 rw [hrun, hx]
set_option maxRecDepth 100000 in
theorem MapS.put {w : World} {b n : Nat} {S : ByteArray -> Bool} (h : MapS w b n S) (hn : n < maxLen) {s : ByteArray} (hs : s.size <= maxLen) :
 ∃ w', (Instr.mapUpdate 281 (.map (some b)) (.string s) (.bool true)).run Tryz.prog w = .ok () w' /\ MapS w' b (n + 1) (fun t => S t || decide (s = t)) /\ w.grownBy w' (some b) := by
 obtain ⟨D, h1, h2⟩ := h
 have hkey := WideMaps.keyOf_string_mk Tryz.underlying9 hs
 obtain ⟨w', hrun, hm, hg⟩ := h1.update setLaw Tryz.underlying281 hn hkey (plainElem_bool (H := Unit) Tryz.underlying4 true)
 exact ⟨w', hrun, ⟨_, hm, h2.put trivial⟩, hg⟩
section
variable {D : Type} {n : Nat} {enc : D -> List Value}
theorem flat_len (hn : ∀ d, (enc d).length = n) : ∀ (l : List D), (l.flatMap enc).length = l.length * n
 | [] => by simp
 | a :: l => by rw [List.flatMap_cons, List.length_append, hn, flat_len hn l, List.length_cons, Nat.add_mul]; omega
theorem flat_get (hn : ∀ d, (enc d).length = n) : ∀ {l : List D} {i j : Nat} {d : D} {u : Value}, l[i]? = some d -> (enc d)[j]? = some u -> (l.flatMap enc)[i * n + j]? = some u
 | [], i, j, d, u, h, _ => by simp at h
 | a :: l, 0, j, d, u, h, hu => by
  simp at h; subst h
  rw [List.flatMap_cons, Nat.zero_mul, Nat.zero_add, List.getElem?_append_left (List.getElem?_eq_some_iff.1 hu).1]; exact hu
 | a :: l, i + 1, j, d, u, h, hu => by
  rw [List.flatMap_cons, List.getElem?_append_right (by rw [hn, Nat.add_mul]; omega), hn]
  have : (i + 1) * n + j - n = i * n + j := by rw [Nat.add_mul]; omega
  rw [this]
  exact flat_get hn (by simpa using h) hu
theorem flat_take (hn : ∀ d, (enc d).length = n) (l : List D) (i : Nat) (hi : i <= l.length) : (l.flatMap enc).take (i * n) = (l.take i).flatMap enc := by
 conv => lhs; rw [<- List.take_append_drop i l]
 rw [List.flatMap_append, List.take_append_of_le_length (by rw [flat_len hn]; simp [Nat.min_eq_left hi]), List.take_of_length_le (by rw [flat_len hn]; simp [Nat.min_eq_left hi])]
theorem flat_drop (hn : ∀ d, (enc d).length = n) (l : List D) (i : Nat) (hi : i <= l.length) : (l.flatMap enc).drop (i * n) = (l.drop i).flatMap enc := by
 conv => lhs; rw [<- List.take_append_drop i l]
 rw [List.flatMap_append, List.drop_append_of_le_length (by rw [flat_len hn]; simp [Nat.min_eq_left hi]), List.drop_of_length_le (by rw [flat_len hn]; simp [Nat.min_eq_left hi]), List.nil_append]
theorem flat_insert (hn : ∀ d, (enc d).length = n) (l : List D) (i : Nat) (hi : i <= l.length) (d : D) :
 (l.flatMap enc).take (i * n) ++ enc d ++ (l.flatMap enc).drop (i * n) = (l.take i ++ d :: l.drop i).flatMap enc := by
 rw [flat_take hn l i hi, flat_drop hn l i hi, List.flatMap_append, List.flatMap_cons, List.append_assoc]
theorem flat_snoc (l : List D) (d : D) : l.flatMap enc ++ enc d = (l ++ [d]).flatMap enc := by simp
theorem Own.flat {w : World} {B : Nat} {e : TypeId} {v : Value} {l : List D} {ok : D -> Prop} (hn : ∀ d, (enc d).length = n) (hl : ∀ x ∈ l, ok x) (h : Own w B e n v l.length (l.flatMap enc)) : Sl (flatL n ok enc hn) w v l := by
 obtain ⟨A, c, rfl, h1, h2⟩ := h.form
 refine ⟨A, c, rfl, h1, h2, fun i d hi => ?_⟩
 obtain ⟨g, o, c', hv, _, _⟩ := h.addr (len_pos hi)
 injection hv with hA _ hc
 subst hA; subst hc
 exact ⟨g, o, _, rfl, ⟨rfl, hl d (List.mem_of_getElem? hi)⟩, fun j u hj => h.cell rfl (flat_get hn hi hj)⟩
end
theorem Fld.enc_len (d : Fld) : d.enc.length = 4 := rfl
theorem Prp.enc_len (d : Prp) : d.enc.length = 4 := rfl
theorem Tie.enc_len (d : Tie) : d.enc.length = 3 := rfl
theorem Own.flds {w : World} {B : Nat} {e : TypeId} {v : Value} {l : List Fld} (h : Own w B e 4 v l.length (l.flatMap Fld.enc)) (hl : ∀ x ∈ l, x.ok) : Sl fldL w v l := h.flat Fld.enc_len hl
theorem Own.prps {w : World} {B : Nat} {e : TypeId} {v : Value} {l : List Prp} (h : Own w B e 4 v l.length (l.flatMap Prp.enc)) (hl : ∀ x ∈ l, x.ok) : Sl prpL w v l := h.flat Prp.enc_len hl
theorem Own.ties {w : World} {B : Nat} {e : TypeId} {v : Value} {l : List Tie} (h : Own w B e 3 v l.length (l.flatMap Tie.enc)) (hl : ∀ x ∈ l, x.ok) : Sl tieL w v l := h.flat Tie.enc_len hl
theorem oneCell_flat {D : Type} {enc : D -> List Value} (h1 : ∀ d, ∀ u ∈ enc d, u.oneCell' = true) (l : List D) : ∀ u ∈ l.flatMap enc, u.oneCell' = true := by
 intro u hu
 obtain ⟨d, _, hd⟩ := List.mem_flatMap.1 hu
 exact h1 d u hd
theorem Fld.enc_one (d : Fld) : ∀ u ∈ d.enc, u.oneCell' = true := by intro u hu; simp [Fld.enc] at hu; rcases hu with rfl | rfl | rfl | rfl <;> rfl
theorem Prp.enc_one (d : Prp) : ∀ u ∈ d.enc, u.oneCell' = true := by intro u hu; simp [Prp.enc] at hu; rcases hu with rfl | rfl | rfl | rfl <;> rfl
theorem Tie.enc_one (d : Tie) : ∀ u ∈ d.enc, u.oneCell' = true := by intro u hu; simp [Tie.enc] at hu; rcases hu with rfl | rfl | rfl <;> rfl
open Go Go.RowKit Go.Sort
section
variable {P : Program} {ops : Array Oper} {md : Region.Mode} {C : World -> Prop}
def wpAnyLQ (P : Program) (md : Region.Mode) (ops : Array Oper) (C : World -> Prop) (n : Nat) (L : Array Bool -> Act -> Prop) : Nat -> Array Bool -> Act -> Prop
 | 0, listed, a => L listed a
 | f + 1, listed, a =>
   Region.ready md ops listed ≠ [] /\ ∀ i ∈ Region.ready md ops listed, i < n /\ qOp P ops C i (wpAnyLQ P md ops C n L f (listed.setIfInBounds i true)) a
theorem wpAny_of_headQ {n g : Nat} {L : Array Bool -> Act -> Prop} {Q' : Exit -> Act -> World -> Prop} (hL : ∀ listed a w, C w -> L listed a -> wpAny P md ops Q' g listed a w) :
 ∀ (f : Nat) (listed : Array Bool) (a : Act) (w : World), C w -> wpAnyLQ P md ops C n L f listed a -> wpAny P md ops Q' (f + g) listed a w
 | 0, listed, a, w, hw, h => by rw [Nat.zero_add]; exact hL _ _ _ hw h
 | f + 1, listed, a, w, hw, h => by
  rw [show f + 1 + g = (f + g) + 1 by omega]
  exact ⟨fun h0 => absurd h0 h.1, fun i hi => wpOp_of_qOp hw (fun a' w' hw' h' => wpAny_of_headQ hL f _ a' w' hw' h') (h.2 i hi).2⟩
theorem wpAnyLQ_first {n i : Nat} {oi : Oper} {v : Value} {L : Array Bool -> Act -> Prop} (hi : ops[i]? = some oi) (hsel : ∀ (j : Nat) (o : Oper) cs b, ops[j]? = some o -> o.op ≠ .select cs b)
 (hs : Region.sinkB md ops n = true) (hc : Region.chainB md ops n = true) (hn : n < ops.size) (hin : i < n)
 (hdone : ∀ listed a, L listed a -> ∀ j ∈ Region.ready md ops listed, n <= j) :
 ∀ (f : Nat) (listed : Array Bool) (a : Act), HeadInv md ops n listed ->
  (∀ j oj, ops[j]? = some oj -> j ≠ i -> listed.getD j true = false -> (∀ e ∈ oj.after, Region.binds md e = true -> e.on ≠ i) -> oi.apart ops oj = true) ->
  i ∈ Region.ready md ops listed -> YieldsIn P ops C oi v a ->
  wpAnyLQ P md ops C n L f (listed.setIfInBounds i true) (a.put oi.dst v) -> wpAnyLQ P md ops C n L (f + 1) listed a := by
 intro f
 induction f with
 | zero =>
  intro listed a inv _ hr hy H
  have hun := (mem_ready.1 hr).1
  refine ⟨fun h => (by rw [h] at hr; cases hr), fun j hj => ?_⟩
  have hjn : j < n := by
   rcases Nat.lt_or_ge j n with h | h
   ·exact h
   exact absurd hj (tail_waits hs hc hn inv _ i rfl hin hun j h)
  refine ⟨hjn, ?_⟩
  by_cases hji : j = i
  ·subst hji; exact hy.qOp hi H
  ·have := hdone _ _ H j (ready_mono hj hji)
   omega
 | succ f ih =>
  intro listed a inv hfree hr hy H
  have hun := (mem_ready.1 hr).1
  refine ⟨fun h => (by rw [h] at hr; cases hr), fun j hj => ?_⟩
  have hjn : j < n := by
   rcases Nat.lt_or_ge j n with h | h
   ·exact h
   exact absurd hj (tail_waits hs hc hn inv _ i rfl hin hun j h)
  refine ⟨hjn, ?_⟩
  by_cases hji : j = i
  ·subst hji; exact hy.qOp hi H
  have h1 := (H.2 j (ready_mono hj hji)).2
  obtain ⟨hjun, oj, hoj, hall⟩ := mem_ready.1 hj
  have hnot : ∀ e ∈ oj.after, Region.binds md e = true -> e.on ≠ i := fun e he hb heq => by
   have h1 := hall e he hb
   rw [heq, getD_both hun] at h1
   cases h1
  have h2 := qOp_put hoj (hfree j oj hoj hji hjun hnot) (fun cs b => hsel i oi cs b hi) (fun cs b => hsel j oj cs b hoj) hy h1
  have hfree' : ∀ k ok, ops[k]? = some ok -> k ≠ i -> (listed.setIfInBounds j true).getD k true = false ->
   (∀ e ∈ ok.after, Region.binds md e = true -> e.on ≠ i) -> oi.apart ops ok = true := fun k ok hk hki hun hno => by
   refine hfree k ok hk hki ?_ hno
   by_cases hjk : j = k
   ·subst hjk; exact hjun
   rw [getD_set_ne true hjk] at hun; exact hun
  refine qOp_mono (fun a' h3 => ih (listed.setIfInBounds j true) a' (inv.set hj hjn) hfree' (ready_mono hr (Ne.symm hji)) h3.1 ?_) h2
  rw [Array.setIfInBounds_comm _ _ hji]
  exact h3.2
theorem wpAnyLQ_lex {n g : Nat} {Lq : Act -> Prop} (hsel : Region.noSelect ops = true) (hs : Region.sinkB md ops n = true) (hc : Region.chainB md ops n = true) (hn : n < ops.size) :
 ∀ (l : List Oper) (k : Nat) (listed : Array Bool) (a : Act), (∀ j, j < l.length -> l[j]? = ops[k + j]?) -> k + l.length = n -> HeadInv md ops n listed ->
 Region.lexHead md ops g l.length k listed = true -> wpQuiet P ops C Lq l a ->
 wpAnyLQ P md ops C n (fun listed' a' => Region.seqB md ops g n listed' = true /\ Lq a') l.length listed a
 | [], k, listed, a, _, hk, _, hB, h => by
  have : k = n := by simpa using hk
  subst this
  exact ⟨by simpa [Region.lexHead] using hB, h⟩
 | o :: l, k, listed, a, hl, hk, inv, hB, h => by
  have h0 : ops[k]? = some o := by simpa using (hl 0 (by simp)).symm
  simp only [List.length_cons, Region.lexHead, Bool.and_eq_true] at hB
  obtain ⟨⟨hr, hf⟩, hB'⟩ := hB
  have hkn : k < n := by simp only [List.length_cons] at hk; omega
  have hr' : k ∈ Region.ready md ops listed := by simpa using hr
  have hst : qOp P ops C k (wpQuiet P ops C Lq l) a := by unfold qOp; simp only [h0]; exact h
  obtain ⟨v, hy, hK⟩ := yieldsIn_of_qOp h0 hst
  exact wpAnyLQ_first h0 (Region.noSelect_spec hsel) hs hc hn hkn (fun listed' a' hL => seqB_ready hL.1) l.length listed a inv (Region.free_spec h0 hf) hr' hy
   (wpAnyLQ_lex hsel hs hc hn l (k + 1) _ _ (fun j hj => by have := hl (j + 1) (by simp; omega); simpa [Nat.add_assoc, Nat.add_comm 1 j] using this) (by simp only [List.length_cons] at hk; omega) (inv.set hr' hkn) hB' hK)
theorem wp_region_quiet_tail {id : Nat} {Q : Exit -> Act -> World -> Prop} {a : Act} {w : World} {l : List Oper} (n : Nat) (hm : P.follows .mixedOrders = true) (hB : Region.lexTailB .any l.toArray n = true)
 (hC : C { w with drawn := w.drawn + 1 })
 (h : wpQuiet P l.toArray C (fun a' => ∀ w', C w' -> wpList P l.toArray Q (l.drop n) a' w') (l.take n) a) : (Code.region id l.toArray true).wp P Q a w := by
 simp only [Region.lexTailB, Bool.and_eq_true, decide_eq_true_eq] at hB
 obtain ⟨⟨⟨⟨hsel, hn⟩, hs⟩, hc⟩, hlex⟩ := hB
 have hn' : n < l.length := by simpa using hn
 have htl : (l.take n).length = n := by simp; omega
 have hdl : (l.drop n).length = l.toArray.size - n := by simp
 have inv0 : HeadInv .any l.toArray n (Array.replicate l.toArray.size false) :=
  ⟨by simp, fun j oj _ hl => (by rw [getD_replicate_false] at hl; cases hl), fun t _ ht => getD_in (by simpa using ht) (getD_replicate_false _ _)⟩
 have H := wpAnyLQ_lex (C := C) (md := .any) (g := l.toArray.size - n) hsel hs hc hn (l.take n) 0 _ a (fun j hj => by
  have hj' : j < n := by rw [htl] at hj; exact hj
  simp [hj']) (by simpa using htl) inv0 (by rw [htl]; exact hlex) h
 refine wp_region_any hm ?_
 have := wpAny_of_headQ (C := C) (Q' := Q) (g := l.toArray.size - n) (fun listed a' w' hw' hL => by
  have := wpAny_of_seq (md := .any) (Q' := Q) (l.drop n) n listed a' w' (fun j => by simp [List.getElem?_drop]) (by rw [hdl]; exact hL.1) (hL.2 w' hw')
  rwa [hdl] at this) _ _ _ _ hC H
 rw [htl, show n + (l.toArray.size - n) = l.toArray.size by omega] at this
 exact this
theorem wp_quiet_tail {id : Nat} {Q : Exit -> Act -> World -> Prop} {a : Act} {w : World} {l : List Oper} (n : Nat) (hm : P.follows .mixedOrders = true) (hB : Region.lexTailB .any l.toArray n = true)
 (h : wpQuiet P l.toArray (fun w' => ∃ n, w' = w.drewN n) (fun a' => ∀ w', (∃ n, w' = w.drewN n) -> wpList P l.toArray Q (l.drop n) a' w') (l.take n) a) : (Code.region id l.toArray true).wp P Q a w :=
 wp_region_quiet_tail (C := fun w' => ∃ n, w' = w.drewN n) n hm hB ⟨1, rfl⟩ h
end
end Go.Proofs.YtngbbefpphinjaaGreatDoor
