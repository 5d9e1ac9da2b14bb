/- Parts: Base, Own. -/
import Derived.WalkKit
import Derived.WalkSpells
import Derived.WalkLawsBesides
import Derived.ProofKit
import Derived.OpenShut
import Derived.Handy
import Derived.BigQuiet
import Derived.Lib.QuietBelow
import Derived.Lib.Hide
import Derived.Maps.AppendAt
/- Plain predicates: how the program's data lie in memory (slices of numbers, texts and structs), and that they stay readable in every later world. No condition. -/
namespace Go.Proofs.YtdmpkgiijddcdaaGreatDoor
open Go.RowKit

/-- The numbers of an int. -/
def I64 (n : Int) : Prop := -9223372036854775808 ≤ n ∧ n ≤ 9223372036854775807
/-- A text that is not too long. -/
def Sm (s : ByteArray) : Prop := s.size ≤ 1048576

/-- How data of one kind lie in cells. -/
structure Lay (D : Type) where
  sz : Nat
  cells : World → D → List Value → Prop
  len : ∀ {w d cs}, cells w d cs → cs.length = sz
  below : ∀ {w w' : World} {d cs}, Below w.heap.size w w' → cells w d cs → cells w' d cs

/-- The slice value v reads as the list l. -/
def Sl {D : Type} (L : Lay D) (w : World) (v : Value) (l : List D) : Prop :=
  ∃ (A : Option Addr) (c : Nat), v = .slice A l.length c ∧ l.length ≤ c ∧ c ≤ maxLen ∧
    ∀ i d, l[i]? = some d → ∃ b o cs, A = some ⟨b, o, none⟩ ∧ L.cells w d cs ∧ ∀ j u, cs[j]? = some u → w.cell? ⟨b, o + (i * L.sz + j), none⟩ = some u

section
variable {D : Type} {L : Lay D} {w w' : World} {v : Value} {l : List D}

theorem cell_below (hb : Below w.heap.size w w') {a : Addr} {u : Value} (h : w.cell? a = some u) : w'.cell? a = some u :=
  (hb.cell (World.block_lt_of_cell? _ _ h)).trans h

theorem Sl.below (hb : Below w.heap.size w w') (h : Sl L w v l) : Sl L w' v l := by
  obtain ⟨A, c, hv, h1, h2, h3⟩ := h
  refine ⟨A, c, hv, h1, h2, fun i d hi => ?_⟩
  obtain ⟨b, o, cs, hA, hc, hx⟩ := h3 i d hi
  exact ⟨b, o, cs, hA, L.below hb hc, fun j u hj => cell_below hb (hx j u hj)⟩

theorem Sl.nil (c : Nat) (hc : c ≤ maxLen) (A : Option Addr) : Sl L w (.slice A 0 c) [] :=
  ⟨A, c, rfl, Nat.zero_le _, hc, fun i d hi => by simp at hi⟩

theorem Sl.form (h : Sl L w v l) : ∃ A c, v = .slice A l.length c ∧ l.length ≤ c ∧ c ≤ maxLen := by
  obtain ⟨A, c, hv, h1, h2, _⟩ := h
  exact ⟨A, c, hv, h1, h2⟩

theorem Sl.all {A : Option Addr} {n c : Nat} (h : Sl L w (.slice A n c) l) (hn : 0 < l.length) :
    ∃ b o, A = some ⟨b, o, none⟩ ∧ ∀ k d, l[k]? = some d → ∃ cs, L.cells w d cs ∧ ∀ j u, cs[j]? = some u → w.cell? ⟨b, o + (k * L.sz + j), none⟩ = some u := by
  obtain ⟨A', c', hv, h1, h2, h3⟩ := h
  injection hv with hA _ _
  subst hA
  obtain ⟨b, o, cs, hA, _, _⟩ := h3 0 _ (List.getElem?_eq_getElem hn)
  refine ⟨b, o, hA, fun k d hk => ?_⟩
  obtain ⟨b', o', cs, hA', hc, hx⟩ := h3 k d hk
  rw [hA] at hA'
  injection hA' with e
  injection e with e1 e2
  subst e1; subst e2
  exact ⟨cs, hc, hx⟩
theorem len_pos {k : Nat} {d : D} (hk : l[k]? = some d) : 0 < l.length := by have := (List.getElem?_eq_some_iff.1 hk).1; omega
end

/-- Slices as elements. -/
def slL {D : Type} (L : Lay D) : Lay (List D) where
  sz := 1
  cells w l cs := ∃ v, cs = [v] ∧ Sl L w v l
  len h := by obtain ⟨v, rfl, _⟩ := h; rfl
  below hb h := by obtain ⟨v, rfl, h⟩ := h; exact ⟨v, rfl, h.below hb⟩

/-- Data whose cells hang on the data alone. -/
def flatL {D : Type} (n : Nat) (ok : D → Prop) (enc : D → List Value) (hn : ∀ d, (enc d).length = n) : Lay D where
  sz := n
  cells _ d cs := cs = enc d ∧ ok d
  len h := by rw [h.1, hn]
  below _ h := h

def intL : Lay Int := flatL 1 I64 (fun n => [.int .i64 n]) (fun _ => rfl)
def byteL : Lay UInt8 := flatL 1 (fun _ => True) (fun b => [.int .u8 b.toNat]) (fun _ => rfl)
def strL : Lay ByteArray := flatL 1 Sm (fun s => [.string s]) (fun _ => rfl)

/-! ### The program's structs -/
structure Val where
  ty : Int
  n : Int
  s : ByteArray
  deriving DecidableEq
structure Prp where
  name : ByteArray
  v : Val
  deriving DecidableEq
structure Fld where
  name : ByteArray
  ty : Int
  must : Bool
  key : Bool
  deriving DecidableEq
structure Knd where
  name : ByteArray
  ofs : List ByteArray
  fields : List Fld
  deriving DecidableEq
structure Bnd where
  name : ByteArray
  src : ByteArray
  dst : ByteArray
  mn : Int
  mx : Int
  deriving DecidableEq
structure Nod where
  id : Int
  kind : ByteArray
  props : List Prp
  deriving DecidableEq
structure Tie where
  bond : ByteArray
  src : Int
  dst : Int
  deriving DecidableEq
structure Grf where
  nodes : List Nod
  ties : List Tie
  deriving DecidableEq
def Val.ok (v : Val) : Prop := I64 v.ty ∧ I64 v.n ∧ Sm v.s
def Val.enc (v : Val) : List Value := [.int .i64 v.ty, .int .i64 v.n, .string v.s]
def Prp.ok (p : Prp) : Prop := Sm p.name ∧ p.v.ok
def Prp.enc (p : Prp) : List Value := [.string p.name, .int .i64 p.v.ty, .int .i64 p.v.n, .string p.v.s]
def Fld.ok (f : Fld) : Prop := Sm f.name ∧ I64 f.ty
def Fld.enc (f : Fld) : List Value := [.string f.name, .int .i64 f.ty, .bool f.must, .bool f.key]
def Bnd.ok (b : Bnd) : Prop := Sm b.name ∧ Sm b.src ∧ Sm b.dst ∧ I64 b.mn ∧ I64 b.mx
def Bnd.enc (b : Bnd) : List Value := [.string b.name, .string b.src, .string b.dst, .int .i64 b.mn, .int .i64 b.mx]
def Tie.ok (t : Tie) : Prop := Sm t.bond ∧ I64 t.src ∧ I64 t.dst
def Tie.enc (t : Tie) : List Value := [.string t.bond, .int .i64 t.src, .int .i64 t.dst]

def valL : Lay Val := flatL 3 Val.ok Val.enc (fun _ => rfl)
def prpL : Lay Prp := flatL 4 Prp.ok Prp.enc (fun _ => rfl)
def tieL : Lay Tie := flatL 3 Tie.ok Tie.enc (fun _ => rfl)
/-! ### An element, cell by cell, as the walk spells it -/
section
variable {w : World} {A : Option Addr} {k n c : Nat}
theorem str_all {l : List ByteArray} (h : Sl strL w (.slice A n c) l) (hn : 0 < l.length) :
    ∃ b o, A = some ⟨b, o, none⟩ ∧ ∀ k d, l[k]? = some d → Sm d ∧ w.cell? ⟨b, o + k, none⟩ = some (.string d) := by
  obtain ⟨b, o, hA, hall⟩ := h.all hn
  refine ⟨b, o, hA, fun k d hk => ?_⟩
  obtain ⟨cs, ⟨rfl, ok⟩, hx⟩ := hall k d hk
  exact ⟨ok, by simpa [strL, flatL] using hx 0 _ rfl⟩
theorem str_at {l : List ByteArray} (h : Sl strL w (.slice A n c) l) {d : ByteArray} (hk : l[k]? = some d) :
    ∃ b o, A = some ⟨b, o, none⟩ ∧ Sm d ∧ w.cell? ⟨b, o + k, none⟩ = some (.string d) := by
  obtain ⟨b, o, hA, hall⟩ := str_all h (len_pos hk)
  exact ⟨b, o, hA, hall k d hk⟩
theorem byte_all {l : List UInt8} (h : Sl byteL w (.slice A n c) l) (hn : 0 < l.length) :
    ∃ b o, A = some ⟨b, o, none⟩ ∧ ∀ k d, l[k]? = some d → w.cell? ⟨b, o + k, none⟩ = some (.int .u8 d.toNat) := by
  obtain ⟨b, o, hA, hall⟩ := h.all hn
  refine ⟨b, o, hA, fun k d hk => ?_⟩
  obtain ⟨cs, ⟨rfl, ok⟩, hx⟩ := hall k d hk
  simpa [byteL, flatL] using hx 0 _ rfl
theorem byte_at {l : List UInt8} (h : Sl byteL w (.slice A n c) l) {d : UInt8} (hk : l[k]? = some d) :
    ∃ b o, A = some ⟨b, o, none⟩ ∧ w.cell? ⟨b, o + k, none⟩ = some (.int .u8 d.toNat) := by
  obtain ⟨b, o, hA, hall⟩ := byte_all h (len_pos hk)
  exact ⟨b, o, hA, hall k d hk⟩
theorem prp_all {l : List Prp} (h : Sl prpL w (.slice A n c) l) (hn : 0 < l.length) :
    ∃ b o, A = some ⟨b, o, none⟩ ∧ ∀ k d, l[k]? = some d → d.ok ∧ w.cell? ⟨b, o + k * 4, none⟩ = some (.string d.name) ∧ w.cell? ⟨b, o + k * 4 + 1, none⟩ = some (.int .i64 d.v.ty) ∧ w.cell? ⟨b, o + k * 4 + 2, none⟩ = some (.int .i64 d.v.n) ∧ w.cell? ⟨b, o + k * 4 + 3, none⟩ = some (.string d.v.s) := by
  obtain ⟨b, o, hA, hall⟩ := h.all hn
  refine ⟨b, o, hA, fun k d hk => ?_⟩
  obtain ⟨cs, ⟨rfl, ok⟩, hx⟩ := hall k d hk
  exact ⟨ok, hx 0 _ rfl, hx 1 _ rfl, hx 2 _ rfl, hx 3 _ rfl⟩
theorem prp_at {l : List Prp} (h : Sl prpL w (.slice A n c) l) {d : Prp} (hk : l[k]? = some d) :
    ∃ b o, A = some ⟨b, o, none⟩ ∧ d.ok ∧ w.cell? ⟨b, o + k * 4, none⟩ = some (.string d.name) ∧ w.cell? ⟨b, o + k * 4 + 1, none⟩ = some (.int .i64 d.v.ty) ∧ w.cell? ⟨b, o + k * 4 + 2, none⟩ = some (.int .i64 d.v.n) ∧ w.cell? ⟨b, o + k * 4 + 3, none⟩ = some (.string d.v.s) := by
  obtain ⟨b, o, hA, hall⟩ := prp_all h (len_pos hk)
  exact ⟨b, o, hA, hall k d hk⟩
end

/-! ### Small words for walks -/
theorem ret_int {k : IntKind} {a b : Int} (h : a = b) : Ending.returned (.int k a) = .returned (.int k b) := by rw [h]
theorem ret_bool {a b : Bool} (h : a = b) : Ending.returned (.bool a) = .returned (.bool b) := by rw [h]

/-- Old cells and marks read as before. -/
theorem bcell {W w1 : World} (hb : Below W.heap.size W w1) : (∀ b o, b < W.heap.size → w1.cell? ⟨b, o, none⟩ = W.cell? ⟨b, o, none⟩) ∧ (∀ b o, b < W.heap.size → w1.frozen? ⟨b, o, none⟩ = W.frozen? ⟨b, o, none⟩) :=
  ⟨fun b o h => hb.cell (p := ⟨b, o, none⟩) h, fun b o h => hb.frozen (p := ⟨b, o, none⟩) h⟩

/-- An error's value: 0 is nil. -/
def errV (k : Int) : Value := if k = 0 then .nilIface else .iface 118 (.int .i64 k)
theorem errV_zero {k : Int} (h : k = 0) : errV k = .nilIface := by simp [errV, h]
theorem errV_some {k : Int} (h : k ≠ 0) : errV k = .iface 118 (.int .i64 k) := by simp [errV, h]

/-- The slice value v, in a block from B on, holds just the cells xs; nobody else writes there. -/
def Own (w : World) (B : Nat) (e : TypeId) (sz : Nat) (v : Value) (n : Nat) (xs : List Value) : Prop :=
  xs.length = n * sz ∧
  ((v = .slice none 0 0 ∧ n = 0) ∨
   ∃ g o cap cur, v = .slice (some ⟨g, o, none⟩) n cap ∧ B ≤ g ∧ w.heap[g]? = some (.cells cur e (0, 0)) ∧ n ≤ cap ∧ cap ≤ maxLen ∧ o + cap * sz ≤ cur.size ∧ (cur.toList.drop o).take (n * sz) = xs)

section
variable {w w' : World} {B : Nat} {e : TypeId} {sz : Nat} {v : Value} {n : Nat} {xs : List Value}

theorem Own.nil (w : World) (B : Nat) (e : TypeId) (sz : Nat) : Own w B e sz (.slice none 0 0) 0 [] := ⟨by simp, .inl ⟨rfl, rfl⟩⟩
theorem Own.form (h : Own w B e sz v n xs) : ∃ A c, v = .slice A n c ∧ n ≤ c ∧ c ≤ maxLen := by
  rcases h.2 with ⟨rfl, rfl⟩ | ⟨g, o, cap, cur, rfl, _, _, h1, h2, _⟩
  · exact ⟨none, 0, rfl, Nat.le_refl _, Nat.zero_le _⟩
  · exact ⟨_, _, rfl, h1, h2⟩
theorem Own.lt (h : Own w B e sz v n xs) : ∀ k, v.ownBlock = some k → B ≤ k ∧ k < w.heap.size := by
  intro k hk
  rcases h.2 with ⟨rfl, _⟩ | ⟨g, o, cap, cur, rfl, hb, hg, _⟩
  · simp [Value.ownBlock] at hk
  · simp [Value.ownBlock] at hk
    subst hk
    exact ⟨hb, (Array.getElem?_eq_some_iff.1 hg).1⟩
/-- It stays as long as its block does. -/
theorem Own.keep (h : Own w B e sz v n xs) (hk : ∀ k, v.ownBlock = some k → w'.heap[k]? = w.heap[k]?) : Own w' B e sz v n xs := by
  refine ⟨h.1, ?_⟩
  rcases h.2 with hn | ⟨g, o, cap, cur, rfl, hb, hg, rest⟩
  · exact .inl hn
  · exact .inr ⟨g, o, cap, cur, rfl, hb, (hk g (by simp [Value.ownBlock])).trans hg, rest⟩
theorem Own.below (h : Own w B e sz v n xs) (hb : Below w.heap.size w w') : Own w' B e sz v n xs :=
  h.keep fun k hk => hb.block k (h.lt k hk).2
theorem Own.alloc (h : Own w B e sz v n xs) (o : Obj) : Own (w.alloc o) B e sz v n xs :=
  h.keep fun k hk => Below.heap_alloc w o k (h.lt k hk).2
theorem Own.drewN (h : Own w B e sz v n xs) (k : Nat) : Own (w.drewN k) B e sz v n xs := h
theorem Own.grown {row : Option Nat} (h : Own w B e sz v n xs) (hg : w.grownBy w' row) (hne : v.ownBlock = none ∨ v.ownBlock ≠ row) : Own w' B e sz v n xs :=
  h.keep fun k hk => hg.block k (h.lt k hk).2 (by rw [← hk]; rcases hne with h0 | h0; (· rw [hk] at h0; cases h0); exact h0)
theorem Own.setCell (h : Own w B e sz v n xs) (p : Addr) (u : Value) (hne : v.ownBlock ≠ some p.block) : Own (w.setCell p u) B e sz v n xs :=
  h.keep fun k hk => Below.heap_setCell w p u k (fun e => hne (by rw [hk, e]))
theorem Own.mono {B' : Nat} (h : Own w B e sz v n xs) (hB : B' ≤ B) : Own w B' e sz v n xs := by
  refine ⟨h.1, ?_⟩
  rcases h.2 with hn | ⟨g, o, cap, cur, rfl, hb, rest⟩
  · exact .inl hn
  · exact .inr ⟨g, o, cap, cur, rfl, by omega, rest⟩
/-- A cell of it. -/
theorem Own.cell (h : Own w B e sz v n xs) {g o c : Nat} (hv : v = .slice (some ⟨g, o, none⟩) n c) {j : Nat} {u : Value} (hj : xs[j]? = some u) : w.cell? ⟨g, o + j, none⟩ = some u := by
  rcases h.2 with ⟨rfl, _⟩ | ⟨g', o', cap, cur, rfl, _, hg, _, _, hcs, ht⟩
  · cases hv
  · injection hv with h1 _ _
    injection h1 with h1
    injection h1 with h1 h2
    subst h1; subst h2
    rw [cell_of_row w g' _ cur e (0, 0) hg]
    rw [← ht, List.getElem?_take] at hj
    split at hj
    · rw [List.getElem?_drop] at hj; simpa using hj
    · cases hj
theorem Own.frozen (h : Own w B e sz v n xs) {g o c : Nat} (hv : v = .slice (some ⟨g, o, none⟩) n c) (j : Nat) : w.frozen? ⟨g, j, none⟩ = false := by
  rcases h.2 with ⟨rfl, _⟩ | ⟨g', o', cap, cur, rfl, _, hg, _⟩
  · cases hv
  · injection hv with h1 _ _
    injection h1 with h1
    injection h1 with h1 h2
    subst h1
    simp [World.frozen?, hg]
theorem Own.addr (h : Own w B e sz v n xs) (hn : 0 < n) : ∃ g o c, v = .slice (some ⟨g, o, none⟩) n c ∧ B ≤ g ∧ g < w.heap.size := by
  rcases h.2 with ⟨_, h0⟩ | ⟨g, o, cap, cur, rfl, hb, hg, _⟩
  · omega
  · exact ⟨g, o, cap, rfl, hb, (Array.getElem?_eq_some_iff.1 hg).1⟩
/-- A store into it. -/
theorem Own.store {g o c : Nat} (h : Own w B e sz (.slice (some ⟨g, o, none⟩) n c) n xs) (j : Nat) (hj : j < n * sz) (u : Value) : Own (w.setCell ⟨g, o + j, none⟩ u) B e sz (.slice (some ⟨g, o, none⟩) n c) n (xs.set j u) := by
  refine ⟨by rw [List.length_set]; exact h.1, ?_⟩
  rcases h.2 with ⟨h0, _⟩ | ⟨g', o', cap, cur, hv, hb, hg, h1, h2, h3, ht⟩
  · cases h0
  · injection hv with e1 _ e3
    injection e1 with e1
    injection e1 with e1 e2
    subst e1; subst e2; subst e3
    refine .inr ⟨g, o, c, cur.setIfInBounds (o + j) u, rfl, hb, ?_, h1, h2, by simpa using h3, ?_⟩
    · simp [World.setCell, Array.getElem?_modify, hg]
    · have hle : n * sz ≤ c * sz := Nat.mul_le_mul_right _ h1
      rw [← ht]
      apply List.ext_getElem?
      intro i
      simp only [List.getElem?_take, List.getElem?_drop, Array.toList_setIfInBounds, List.getElem?_set]
      by_cases hij : j = i
      · subst hij
        have hoj : o + j < cur.size := by omega
        have hjx : j < (List.take (n * sz) (List.drop o cur.toList)).length := by simp; omega
        simp [hj, hoj]
        omega
      · simp [hij]
/-- What is behind the first k. -/
theorem Own.cut {g o c : Nat} (h : Own w B e sz (.slice (some ⟨g, o, none⟩) n c) n xs) {k : Nat} (hk : k ≤ n) (_hc : k < c) : Own w B e sz (.slice (some ⟨g, o + k * sz, none⟩) (n - k) (c - k)) (n - k) (xs.drop (k * sz)) := by
  refine ⟨by rw [List.length_drop, h.1, Nat.sub_mul], ?_⟩
  rcases h.2 with ⟨h0, _⟩ | ⟨g', o', cap, cur, hv, hb, hg, h1, h2, h3, ht⟩
  · cases h0
  · injection hv with e1 _ e3
    injection e1 with e1
    injection e1 with e1 e2
    subst e1; subst e2; subst e3
    refine .inr ⟨g, o + k * sz, c - k, cur, rfl, hb, hg, by omega, by omega, ?_, ?_⟩
    · have : k * sz + (c - k) * sz = c * sz := by rw [← Nat.add_mul]; congr 1; omega
      omega
    · rw [← ht, List.drop_take, List.drop_drop, Nat.sub_mul]
end

theorem grownBy_refl (w : World) (row : Option Nat) : w.grownBy w row := ⟨rfl, rfl, rfl, Nat.le_refl _, fun _ _ _ => rfl⟩

section
variable {P : Program} (w : World)
theorem run_append_at (t ty e : TypeId) (i : TypeInfo) (ht : P.underlying t = some (.slice e)) (hi : P.info? e = some i)
    (g o sLen sCap : Nat) (cur : Array Value) (hg : w.heap[g]? = some (.cells cur e (0, 0)))
    (a : Addr) (m c : Nat) (news : List Value) (hl : news.length = m * i.size) (hnews : ∀ j u, news[j]? = some u → w.cell? (a.add j) = some u) (h1 : ∀ u ∈ news, u.oneCell' = true)
    (hroom : sLen + m ≤ sCap) (hfit : o + sLen * i.size + news.length ≤ cur.size) :
    (Builtin.append_ #[t, t] ty #[.slice (some ⟨g, o, none⟩) sLen sCap, .slice (some a) m c]).run P w =
      .ok (.slice (some ⟨g, o, none⟩) (sLen + m) sCap) (w.setRow g (cur.toList.take (o + sLen * i.size) ++ news ++ cur.toList.drop (o + sLen * i.size + news.length)).toArray) := by
  have hf := run_firstCells_some (P := P) w i.size m a m c news hl hnews
  have hst := run_storeCells_at P g (o + sLen * i.size) e news 0 cur w hg (by simpa using hfit) h1
  simp only [Nat.add_zero] at hst
  have hadd : (⟨g, o, none⟩ : Addr).add (sLen * i.size) = ⟨g, o + sLen * i.size, none⟩ := by unfold Addr.add; split <;> simp_all
  simp [Builtin.append_, run_underlying ht, sizeOf, typeInfo, hi, Builtin.lenOf, hroom, hf, hadd, hst]

/-- append onto an owned slice, whatever is appended. -/
theorem run_append_q (B : Nat) (t ty e : TypeId) (i : TypeInfo) (z : Value) (size bytes : Nat) (ht : P.underlying t = some (.slice e)) (hi : P.info? e = some i) (hz : i.zero = some z)
    (hsize : i.size = size) (hby : i.bytes = bytes) (hzs : z.cells.size = size) (hsz : 0 < size)
    (v : Value) (n : Nat) (xs : List Value) (hown : Own w B e size v n xs)
    (A : Option Addr) (m c : Nat) (news : List Value) (hl : news.length = m * size) (hA : 0 < m → ∃ a, A = some a ∧ ∀ j u, news[j]? = some u → w.cell? (a.add j) = some u) (h1 : ∀ u ∈ news, u.oneCell' = true)
    (h63 : n + m ≤ maxLen) (hbytes : (n + m) * bytes ≤ 140737488355328) (hbase : B ≤ w.heap.size) :
    ∃ v' w', (Builtin.append_ #[t, t] ty #[v, .slice A m c]).run P w = .ok v' w' ∧ Own w' B e size v' (n + m) (xs ++ news) ∧ w.grownBy w' v.ownBlock ∧ (v'.ownBlock = v.ownBlock ∨ v'.ownBlock = some w.heap.size) := by
  subst hsize
  subst hby
  have hsmall : n + m ≤ 9223372036854775807 := by simp only [maxLen] at h63; omega
  have hlen : (xs ++ news).length = (n + m) * i.size := by rw [List.length_append, hown.1, hl, Nat.add_mul]
  have grown : ∀ (old : Nat), old < n + m → ∀ (row : Option Nat),
      Own (w.drew.alloc (.cells (xs.toArray ++ news.toArray ++ Builtin.zeroCells z.cells (grownCap w (n + m) old e - (n + m))) e)) B e i.size
        (.slice (some ⟨w.heap.size, 0, none⟩) (n + m) (grownCap w (n + m) old e)) (n + m) (xs ++ news) ∧
      w.grownBy (w.drew.alloc (.cells (xs.toArray ++ news.toArray ++ Builtin.zeroCells z.cells (grownCap w (n + m) old e - (n + m))) e)) row := by
    intro old ho row
    have hge := grownCap_ge w (n + m) old e
    have hcm : grownCap w (n + m) old e ≤ maxLen := grownCap_le_maxLen w (n + m) old e h63
    refine ⟨⟨hlen, .inr ⟨w.heap.size, 0, _, _, rfl, hbase, heap_alloc_new w.drew _, hge, hcm, ?_, ?_⟩⟩, ⟨rfl, rfl, rfl, by simp, fun k hk _ => Below.heap_alloc w.drew _ k hk⟩⟩
    · simp only [Array.size_append, List.size_toArray, size_zeroCells, hzs, hown.1, hl, ← Nat.add_mul]
      have : n + m + (grownCap w (n + m) old e - (n + m)) = grownCap w (n + m) old e := by omega
      rw [this]; omega
    · simp only [Array.toList_append, List.append_assoc, List.drop_zero]
      rw [← List.append_assoc, ← hlen]
      exact List.take_left
  by_cases hm : m = 0
  · subst hm
    have hn : news = [] := List.eq_nil_of_length_eq_zero (by simpa using hl)
    subst hn
    refine ⟨v, w, ?_, by simpa using hown, grownBy_refl w _, Or.inl rfl⟩
    rcases hown.2 with ⟨rfl, rfl⟩ | ⟨g, o, cap, cur, rfl, _, hg, hnc, _⟩
    · cases A <;> simp [Builtin.append_, run_underlying ht, sizeOf, typeInfo, hi, Builtin.lenOf, Builtin.firstCells, loadCells, loadCellsFrom]
    · cases A <;> simp [Builtin.append_, run_underlying ht, sizeOf, typeInfo, hi, Builtin.lenOf, Builtin.firstCells, loadCells, loadCellsFrom, hnc, storeCells]
  obtain ⟨a, rfl, hnews⟩ := hA (by omega)
  rcases hown.2 with ⟨rfl, rfl⟩ | ⟨g, o, cap, cur, rfl, hbg, hg, hnc, hcm, hcs, htake⟩
  · have hx : xs = [] := List.eq_nil_of_length_eq_zero (by simpa using hown.1)
    subst hx
    have hr := run_append_nil (P := P) w t ty e i z ht hi hz a m c news hl hnews (by omega) (by omega) (by have hb := hbytes; simp only [Nat.zero_add] at hb; omega)
    have hgr := grown 0 (by omega) (Value.ownBlock (.slice none 0 0))
    simp only [Nat.zero_add, List.nil_append, Array.empty_append] at hgr ⊢
    exact ⟨_, _, hr, hgr.1, hgr.2, Or.inr rfl⟩
  · by_cases hroom : n + m ≤ cap
    · have hle : (n + m) * i.size ≤ cap * i.size := Nat.mul_le_mul_right _ hroom
      have hnm : n * i.size + news.length = (n + m) * i.size := by rw [hl, ← Nat.add_mul]
      have hfit : o + n * i.size + news.length ≤ cur.size := by omega
      have hr := run_append_at (P := P) w t ty e i ht hi g o n cap cur hg a m c news hl hnews h1 hroom hfit
      refine ⟨_, _, hr, ⟨hlen, .inr ⟨g, o, cap, _, rfl, hbg, setRow_heap w g cur _ e _ hg, hroom, hcm, ?_, ?_⟩⟩, ⟨rfl, rfl, rfl, by simp, fun k _ hk => setRow_other w g k _ (fun e => hk (by simp [Value.ownBlock, e]))⟩, Or.inl rfl⟩
      · simp only [List.size_toArray, List.length_append, List.length_take, List.length_drop, Array.length_toList]
        omega
      · simp only [List.append_assoc]
        rw [List.drop_append_of_le_length (by simp; omega), ← List.append_assoc]
        have e1 : (cur.toList.take (o + n * i.size)).drop o = xs := by rw [List.drop_take, ← htake]; congr 1; omega
        rw [e1, ← hlen]
        exact List.take_left
    · have holds : ∀ j u, xs[j]? = some u → w.cell? ((⟨g, o, none⟩ : Addr).add j) = some u := by
        intro j u hj
        have hadd : (⟨g, o, none⟩ : Addr).add j = ⟨g, o + j, none⟩ := by unfold Addr.add; split <;> simp_all
        rw [hadd]
        exact hown.cell rfl hj
      have hr := run_append_grow (P := P) w t ty e i z ht hi hz ⟨g, o, none⟩ n cap xs hown.1 holds a m c news hl hnews (by omega) (by omega) (growslice_fits (by omega) hbytes)
      have hgr := grown cap (by omega) (Value.ownBlock (.slice (some ⟨g, o, none⟩) n cap))
      exact ⟨_, _, hr, hgr.1, hgr.2, Or.inr rfl⟩

theorem wp_append_q {o : Oper} {a : Act} {K : Act → World → Prop} {Q : Exit → Act → World → Prop} (s x : Operand) (t : TypeId)
    (ho : o.op = .call { callee := .builtin .append, args := #[s, x], argTypes := #[t, t] })
    (B : Nat) (e : TypeId) (i : TypeInfo) (z : Value) (size bytes : Nat) (ht : P.underlying t = some (.slice e)) (hi : P.info? e = some i) (hz : i.zero = some z)
    (hsize : i.size = size) (hby : i.bytes = bytes) (hzs : z.cells.size = size) (hsz : 0 < size)
    (v : Value) (n : Nat) (xs : List Value) (hs : a.eval s = v) (hown : Own w B e size v n xs)
    (A : Option Addr) (m c : Nat) (news : List Value) (hx : a.eval x = .slice A m c) (hl : news.length = m * size) (hA : 0 < m → ∃ a, A = some a ∧ ∀ j u, news[j]? = some u → w.cell? (a.add j) = some u) (h1 : ∀ u ∈ news, u.oneCell' = true)
    (h63 : n + m ≤ maxLen) (hbytes : (n + m) * bytes ≤ 140737488355328) (hbase : B ≤ w.heap.size)
    (h : ∀ v' w', Own w' B e size v' (n + m) (xs ++ news) → w.grownBy w' v.ownBlock → (v'.ownBlock = v.ownBlock ∨ v'.ownBlock = some w.heap.size) → K (a.put o.dst v') w') : o.wp P a w K Q := by
  obtain ⟨v', w', hr, h2, h3, h4⟩ := run_append_q (P := P) w B t o.type e i z size bytes ht hi hz hsize hby hzs hsz v n xs hown A m c news hl hA h1 h63 hbytes hbase
  unfold Oper.wp execOp
  simp only [ho, resolve, invoke, builtin, Sem.run_bind, Sem.run_pure, Result.andThen_ok, List.map_toArray, List.map_cons, List.map_nil, hs, hx, hr]
  exact h v' w' h2 h3 h4

theorem wpList_append_q {ops : Array Oper} {rest : List Oper} {o : Oper} {a : Act} {Q : Exit → Act → World → Prop} (hgd : o.guard = none) (s x : Operand) (t : TypeId)
    (ho : o.op = .call { callee := .builtin .append, args := #[s, x], argTypes := #[t, t] })
    (B : Nat) (e : TypeId) (i : TypeInfo) (z : Value) (size bytes : Nat) (ht : P.underlying t = some (.slice e)) (hi : P.info? e = some i) (hz : i.zero = some z)
    (hsize : i.size = size) (hby : i.bytes = bytes) (hzs : z.cells.size = size) (hsz : 0 < size)
    (v : Value) (n : Nat) (xs : List Value) (hs : a.eval s = v) (hown : Own w B e size v n xs)
    (A : Option Addr) (m c : Nat) (news : List Value) (hx : a.eval x = .slice A m c) (hl : news.length = m * size) (hA : 0 < m → ∃ a, A = some a ∧ ∀ j u, news[j]? = some u → w.cell? (a.add j) = some u) (h1 : ∀ u ∈ news, u.oneCell' = true)
    (h63 : n + m ≤ maxLen) (hbytes : (n + m) * bytes ≤ 140737488355328) (hbase : B ≤ w.heap.size)
    (h : ∀ v' w', Own w' B e size v' (n + m) (xs ++ news) → w.grownBy w' v.ownBlock → (v'.ownBlock = v.ownBlock ∨ v'.ownBlock = some w.heap.size) → wpList P ops Q rest (a.put o.dst v') w') : wpList P ops Q (o :: rest) a w :=
  wpList_plain hgd fun _ hK => wp_append_q w s x t ho B e i z size bytes ht hi hz hsize hby hzs hsz v n xs hs hown A m c news hx hl hA h1 h63 hbytes hbase fun v' w' h2 h3 h4 => hK _ _ (h v' w' h2 h3 h4)
end

/-- An owned row of ints reads as them. -/
theorem Own.ints {w : World} {B : Nat} {e : TypeId} {v : Value} {l : List Int} (hl : ∀ x ∈ l, I64 x) (h : Own w B e 1 v l.length (l.map (Value.int .i64))) : Sl intL w v l := by
  obtain ⟨A, c, rfl, h1, h2⟩ := h.form
  refine ⟨A, c, rfl, h1, h2, fun i d hi => ?_⟩
  obtain ⟨g, o, c', hv, _, _⟩ := h.addr (len_pos hi)
  injection hv with hA _ hc
  subst hA; subst hc
  refine ⟨g, o, _, rfl, ⟨rfl, hl d (List.mem_of_getElem? hi)⟩, fun j u hj => ?_⟩
  match j, hj with
  | 0, hj =>
    simp at hj
    subst hj
    have := h.cell rfl (j := i) (u := .int .i64 d) (by simp [hi])
    simpa [intL, flatL] using this
end Go.Proofs.YtdmpkgiijddcdaaGreatDoor
