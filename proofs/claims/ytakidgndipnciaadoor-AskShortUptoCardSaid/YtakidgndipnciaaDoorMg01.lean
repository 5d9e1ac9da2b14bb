/- Parts: Base, VtP. -/
import Derived.WalkKit
import Derived.WalkSpells
import Derived.WalkLawsBesides
import Derived.ProofKit
import Derived.OpenShut
import Derived.Handy
import Derived.BigQuiet
import Derived.Lib.QuietBelow
import Derived.Lib.Hide
import Derived.Lib.Replace
import Derived.Lib.CountLaws
/- Plain predicates: how the program's data lie in memory (slices of numbers, texts and structs), and that they stay readable in every later world. No condition. -/
namespace Go.Proofs.YtakidgndipnciaaDoor
open Go.RowKit

/-- The numbers of an int. -/
def I64 (n : Int) : Prop := -9223372036854775808 ≤ n ∧ n ≤ 9223372036854775807
/-- A text that is not too long. -/
def Sm (s : ByteArray) : Prop := s.size ≤ 1048576

/-- How data of one kind lie in cells. -/
structure Lay (D : Type) where
  sz : Nat
  cells : World → D → List Value → Prop
  len : ∀ {w d cs}, cells w d cs → cs.length = sz
  below : ∀ {w w' : World} {d cs}, Below w.heap.size w w' → cells w d cs → cells w' d cs

/-- The slice value v reads as the list l. -/
def Sl {D : Type} (L : Lay D) (w : World) (v : Value) (l : List D) : Prop :=
  ∃ (A : Option Addr) (c : Nat), v = .slice A l.length c ∧ l.length ≤ c ∧ c ≤ maxLen ∧
    ∀ i d, l[i]? = some d → ∃ b o cs, A = some ⟨b, o, none⟩ ∧ L.cells w d cs ∧ ∀ j u, cs[j]? = some u → w.cell? ⟨b, o + (i * L.sz + j), none⟩ = some u

section
variable {D : Type} {L : Lay D} {w w' : World} {v : Value} {l : List D}

theorem cell_below (hb : Below w.heap.size w w') {a : Addr} {u : Value} (h : w.cell? a = some u) : w'.cell? a = some u :=
  (hb.cell (World.block_lt_of_cell? _ _ h)).trans h

theorem Sl.below (hb : Below w.heap.size w w') (h : Sl L w v l) : Sl L w' v l := by
  obtain ⟨A, c, hv, h1, h2, h3⟩ := h
  refine ⟨A, c, hv, h1, h2, fun i d hi => ?_⟩
  obtain ⟨b, o, cs, hA, hc, hx⟩ := h3 i d hi
  exact ⟨b, o, cs, hA, L.below hb hc, fun j u hj => cell_below hb (hx j u hj)⟩

theorem Sl.nil (c : Nat) (hc : c ≤ maxLen) (A : Option Addr) : Sl L w (.slice A 0 c) [] :=
  ⟨A, c, rfl, Nat.zero_le _, hc, fun i d hi => by simp at hi⟩

theorem Sl.form (h : Sl L w v l) : ∃ A c, v = .slice A l.length c ∧ l.length ≤ c ∧ c ≤ maxLen := by
  obtain ⟨A, c, hv, h1, h2, _⟩ := h
  exact ⟨A, c, hv, h1, h2⟩

theorem Sl.all {A : Option Addr} {n c : Nat} (h : Sl L w (.slice A n c) l) (hn : 0 < l.length) :
    ∃ b o, A = some ⟨b, o, none⟩ ∧ ∀ k d, l[k]? = some d → ∃ cs, L.cells w d cs ∧ ∀ j u, cs[j]? = some u → w.cell? ⟨b, o + (k * L.sz + j), none⟩ = some u := by
  obtain ⟨A', c', hv, h1, h2, h3⟩ := h
  injection hv with hA _ _
  subst hA
  obtain ⟨b, o, cs, hA, _, _⟩ := h3 0 _ (List.getElem?_eq_getElem hn)
  refine ⟨b, o, hA, fun k d hk => ?_⟩
  obtain ⟨b', o', cs, hA', hc, hx⟩ := h3 k d hk
  rw [hA] at hA'
  injection hA' with e
  injection e with e1 e2
  subst e1; subst e2
  exact ⟨cs, hc, hx⟩
theorem len_pos {k : Nat} {d : D} (hk : l[k]? = some d) : 0 < l.length := by have := (List.getElem?_eq_some_iff.1 hk).1; omega
end

/-- Slices as elements. -/
def slL {D : Type} (L : Lay D) : Lay (List D) where
  sz := 1
  cells w l cs := ∃ v, cs = [v] ∧ Sl L w v l
  len h := by obtain ⟨v, rfl, _⟩ := h; rfl
  below hb h := by obtain ⟨v, rfl, h⟩ := h; exact ⟨v, rfl, h.below hb⟩

/-- Data whose cells hang on the data alone. -/
def flatL {D : Type} (n : Nat) (ok : D → Prop) (enc : D → List Value) (hn : ∀ d, (enc d).length = n) : Lay D where
  sz := n
  cells _ d cs := cs = enc d ∧ ok d
  len h := by rw [h.1, hn]
  below _ h := h

def byteL : Lay UInt8 := flatL 1 (fun _ => True) (fun b => [.int .u8 b.toNat]) (fun _ => rfl)
def strL : Lay ByteArray := flatL 1 Sm (fun s => [.string s]) (fun _ => rfl)

/-! ### The program's structs -/
structure Val where
  ty : Int
  n : Int
  s : ByteArray
  deriving DecidableEq
structure Prp where
  name : ByteArray
  v : Val
  deriving DecidableEq
structure Nod where
  id : Int
  kind : ByteArray
  props : List Prp
  deriving DecidableEq
structure Tie where
  bond : ByteArray
  src : Int
  dst : Int
  deriving DecidableEq
structure Grf where
  nodes : List Nod
  ties : List Tie
  deriving DecidableEq
def Val.ok (v : Val) : Prop := I64 v.ty ∧ I64 v.n ∧ Sm v.s
def Val.enc (v : Val) : List Value := [.int .i64 v.ty, .int .i64 v.n, .string v.s]
def Prp.ok (p : Prp) : Prop := Sm p.name ∧ p.v.ok
def Prp.enc (p : Prp) : List Value := [.string p.name, .int .i64 p.v.ty, .int .i64 p.v.n, .string p.v.s]
def Tie.ok (t : Tie) : Prop := Sm t.bond ∧ I64 t.src ∧ I64 t.dst
def Tie.enc (t : Tie) : List Value := [.string t.bond, .int .i64 t.src, .int .i64 t.dst]

def tieL : Lay Tie := flatL 3 Tie.ok Tie.enc (fun _ => rfl)
/-! ### An element, cell by cell, as the walk spells it -/
section
variable {w : World} {A : Option Addr} {k n c : Nat}
theorem str_all {l : List ByteArray} (h : Sl strL w (.slice A n c) l) (hn : 0 < l.length) :
    ∃ b o, A = some ⟨b, o, none⟩ ∧ ∀ k d, l[k]? = some d → Sm d ∧ w.cell? ⟨b, o + k, none⟩ = some (.string d) := by
  obtain ⟨b, o, hA, hall⟩ := h.all hn
  refine ⟨b, o, hA, fun k d hk => ?_⟩
  obtain ⟨cs, ⟨rfl, ok⟩, hx⟩ := hall k d hk
  exact ⟨ok, by simpa [strL, flatL] using hx 0 _ rfl⟩
theorem byte_all {l : List UInt8} (h : Sl byteL w (.slice A n c) l) (hn : 0 < l.length) :
    ∃ b o, A = some ⟨b, o, none⟩ ∧ ∀ k d, l[k]? = some d → w.cell? ⟨b, o + k, none⟩ = some (.int .u8 d.toNat) := by
  obtain ⟨b, o, hA, hall⟩ := h.all hn
  refine ⟨b, o, hA, fun k d hk => ?_⟩
  obtain ⟨cs, ⟨rfl, ok⟩, hx⟩ := hall k d hk
  simpa [byteL, flatL] using hx 0 _ rfl
theorem byte_at {l : List UInt8} (h : Sl byteL w (.slice A n c) l) {d : UInt8} (hk : l[k]? = some d) :
    ∃ b o, A = some ⟨b, o, none⟩ ∧ w.cell? ⟨b, o + k, none⟩ = some (.int .u8 d.toNat) := by
  obtain ⟨b, o, hA, hall⟩ := byte_all h (len_pos hk)
  exact ⟨b, o, hA, hall k d hk⟩
end

/-! ### Small words for walks -/
theorem ret_int {k : IntKind} {a b : Int} (h : a = b) : Ending.returned (.int k a) = .returned (.int k b) := by rw [h]
theorem ret_bool {a b : Bool} (h : a = b) : Ending.returned (.bool a) = .returned (.bool b) := by rw [h]

/-- An error's value: 0 is nil. -/
def errV (k : Int) : Value := if k = 0 then .nilIface else .iface 46 (.int .i64 k)
theorem errV_zero {k : Int} (h : k = 0) : errV k = .nilIface := by simp [errV, h]
theorem errV_some {k : Int} (h : k ≠ 0) : errV k = .iface 46 (.int .i64 k) := by simp [errV, h]
open Go

/-- Each quote twice. -/
def dbl : List UInt8 → List UInt8
  | [] => []
  | c :: l => if c = 39 then 39 :: 39 :: dbl l else c :: dbl l
theorem dbl_cons (c : UInt8) (l : List UInt8) : dbl (c :: l) = if c = 39 then 39 :: 39 :: dbl l else c :: dbl l := rfl
theorem dbl_append (a b : List UInt8) : dbl (a ++ b) = dbl a ++ dbl b := by
  induction a with
  | nil => rfl
  | cons c a ih =>
    show dbl (c :: (a ++ b)) = dbl (c :: a) ++ dbl b
    rw [dbl_cons, dbl_cons, ih]
    split <;> rfl
theorem dbl_none {a : List UInt8} (h : ∀ c ∈ a, c ≠ 39) : dbl a = a := by
  induction a with
  | nil => rfl
  | cons c a ih =>
    rw [dbl_cons, if_neg (h c (by simp)), ih fun x hx => h x (by simp [hx])]
theorem dbl_quote (l : List UInt8) : dbl (39 :: l) = 39 :: 39 :: dbl l := by
  rw [dbl_cons, if_pos rfl]
/-- A list has a first quote, or none. -/
theorem first_quote : ∀ l : List UInt8, (∀ c ∈ l, c ≠ 39) ∨ ∃ a r, l = a ++ 39 :: r ∧ ∀ c ∈ a, c ≠ 39
  | [] => .inl fun _ h => by cases h
  | c :: l => by
    by_cases hc : c = 39
    · exact .inr ⟨[], l, by rw [hc]; rfl, fun _ h => by cases h⟩
    · rcases first_quote l with h | ⟨a, r, rfl, h⟩
      · exact .inl fun x hx => by
          rcases List.mem_cons.1 hx with rfl | hx
          · exact hc
          · exact h x hx
      · exact .inr ⟨c :: a, r, rfl, fun x hx => by
          rcases List.mem_cons.1 hx with rfl | hx
          · exact hc
          · exact h x hx⟩
theorem occ_head_ne {s sub t : List UInt8} {i : Nat} (hs : sub = 39 :: t) (h : s[i]? ≠ some 39) : Lib.occAt s sub i = false := by
  cases hq : Lib.occAt s sub i with
  | false => rfl
  | true => exact absurd (Lib.occAt_head hs hq) h
theorem no_occ {a s t : List UInt8} (h : ∀ c ∈ a, c ≠ 39) : Lib.NoOcc (a ++ s) (39 :: t) a.length := fun j hj => by
  refine occ_head_ne rfl ?_
  rw [List.getElem?_append_left hj]
  intro e
  exact h _ (List.mem_of_getElem? e) rfl
theorem index_none_quote {a t : List UInt8} (h : ∀ c ∈ a, c ≠ 39) : Lib.index a (39 :: t) = -1 := by
  refine Lib.index_none fun j hj => occ_head_ne rfl ?_
  intro e
  exact h _ (List.mem_of_getElem? e) rfl
theorem index_quote1 {a r : List UInt8} (h : ∀ c ∈ a, c ≠ 39) : Lib.index (a ++ 39 :: r) [39] = a.length :=
  Lib.index_hit (no_occ h) (by simp) (by simp [Lib.occAt])
theorem index_quote2 {a r : List UInt8} (h : ∀ c ∈ a, c ≠ 39) : Lib.index (a ++ 39 :: 39 :: r) [39, 39] = a.length :=
  Lib.index_hit (no_occ h) (by simp) (by simp [Lib.occAt])
theorem drop_behind (a r : List UInt8) (c : UInt8) : (a ++ c :: r).drop (a.length + 1) = r := by simp
theorem drop_behind2 (a r : List UInt8) (c d : UInt8) : (a ++ c :: d :: r).drop (a.length + 2) = r := by simp
theorem doubled_k : ∀ (n : Nat) (s : List UInt8), s.length ≤ n → Lib.replaceK [39] [39, 39] (Lib.count s [39]) s = dbl s
  | n, s, hn => by
    rcases first_quote s with h | ⟨a, r, rfl, h⟩
    · rw [Lib.count_miss (index_none_quote h), dbl_none h]; rfl
    · cases n with
      | zero => simp at hn
      | succ n =>
        have hi := index_quote1 (r := r) h
        rw [Lib.count_hit (by simp) hi, Nat.add_comm, Lib.replaceK_hit _ _ _ _ _ hi]
        show (a ++ 39 :: r).take a.length ++ [39, 39] ++ Lib.replaceK [39] [39, 39] (Lib.count ((a ++ 39 :: r).drop (a.length + 1)) [39]) ((a ++ 39 :: r).drop (a.length + 1)) = _
        rw [drop_behind, doubled_k n r (by simp at hn; omega), List.take_left, dbl_append, dbl_none h, dbl_quote]
        simp
theorem replaceAll_eq {s old new : List UInt8} (hne : (old == new) = false) : Lib.replaceAll s old new = Lib.replaceK old new (Lib.count s old) s := by
  unfold Lib.replaceAll Lib.replace Lib.replaceNum
  rw [if_neg (by rw [hne]; simp), if_pos (.inl (by omega))]
/-- What the program doubles. -/
theorem doubled (s : List UInt8) : Lib.replaceAll s [39] [39, 39] = dbl s := by
  rw [replaceAll_eq (by decide), doubled_k s.length s (Nat.le_refl _)]
theorem halved_k : ∀ (n : Nat) (u : List UInt8), u.length ≤ n → Lib.replaceK [39, 39] [39] (Lib.count (dbl u) [39, 39]) (dbl u) = u
  | n, u, hn => by
    rcases first_quote u with h | ⟨a, r, rfl, h⟩
    · rw [dbl_none h, Lib.count_miss (index_none_quote h)]; rfl
    · cases n with
      | zero => simp at hn
      | succ n =>
        rw [dbl_append, dbl_none h, dbl_quote]
        have hi := index_quote2 (r := dbl r) h
        rw [Lib.count_hit (by simp) hi, Nat.add_comm, Lib.replaceK_hit _ _ _ _ _ hi]
        show (a ++ 39 :: 39 :: dbl r).take a.length ++ [39] ++ Lib.replaceK [39, 39] [39] (Lib.count ((a ++ 39 :: 39 :: dbl r).drop (a.length + 2)) [39, 39]) ((a ++ 39 :: 39 :: dbl r).drop (a.length + 2)) = _
        rw [drop_behind2, halved_k n r (by simp at hn; omega), List.take_left]
        simp
/-- What the program halves. -/
theorem halved (u : List UInt8) : Lib.replaceAll (dbl u) [39, 39] [39] = u := by
  rw [replaceAll_eq (by decide), halved_k u.length u (Nat.le_refl _)]
end Go.Proofs.YtakidgndipnciaaDoor
