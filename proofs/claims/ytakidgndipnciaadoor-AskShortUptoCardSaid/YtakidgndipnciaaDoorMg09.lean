/- Parts: VtR, VtG, AsP, AsL. -/
import Derived.Test.YtakidgndipnciaaDoorMg08
import Derived.Test.YtakidgndipnciaaDoorMg07
/- Plain: a text as a record. No condition. -/
namespace Go.Proofs.YtakidgndipnciaaDoor
open Go

/-- A piece as a property. -/
def pieceP (x : List UInt8) : Option Prp := if (Lib.cut x [61]).2.2 = true ∧ readE (Lib.cut x [61]).2.1 = 0 then some ⟨bs (Lib.cut x [61]).1, readV (Lib.cut x [61]).2.1⟩ else none
def propsP : List (List UInt8) → Option (List Prp)
  | [] => some []
  | x :: xs => match pieceP x with
    | none => none
    | some p => match propsP xs with
      | none => none
      | some r => some (p :: r)
/-- A text as a record: the fault; the record. -/
def readRE (l : List UInt8) : Int := if l = [45] then 0 else match propsP (cutL 44 l) with | none => 2 | some r => recE r
def readRV (l : List UInt8) : List Prp := if l = [45] then [] else match propsP (cutL 44 l) with | none => [] | some r => if recE r = 0 then r else []

def nodeW : List UInt8 := [110, 111, 100, 101]
def tieW : List UInt8 := [116, 105, 101]
/-- A node, a tie of what stands behind its word. -/
def readNodL (l : List UInt8) : Option Nod := match Lib.splitN l [32] 3 with
  | [a, b, c] => if b = [] then none else match numL a 4 with
    | none => none
    | some n => if readRE c = 0 then some ⟨n, bs b, readRV c⟩ else none
  | _ => none
def readTieL (l : List UInt8) : Option Tie := match Lib.split l [32] with
  | [a, b, c] => if a = [] then none else match numL b 4, numL c 4 with
    | some x, some y => some ⟨bs a, x, y⟩
    | _, _ => none
  | _ => none
/-- A line more. -/
def lineT (g : Grf) (x : List UInt8) : Option Grf :=
  if Lib.hasSuffix x [10] = true then
    (if (Lib.cut (Lib.trimSuffix x [10]) [32]).1 = nodeW ∧ g.ties.length = 0 then (readNodL (Lib.cut (Lib.trimSuffix x [10]) [32]).2.1).map fun n => ⟨g.nodes ++ [n], g.ties⟩
     else if (Lib.cut (Lib.trimSuffix x [10]) [32]).1 = tieW then (readTieL (Lib.cut (Lib.trimSuffix x [10]) [32]).2.1).map fun t => ⟨g.nodes, g.ties ++ [t]⟩
     else none)
  else none
/-- Lines, one by one: the graph, or the number of the line that is wrong. -/
def runT (g : Grf) (n : Nat) : List (List UInt8) → Except Nat Grf
  | [] => .ok g
  | x :: xs => match lineT g x with
    | none => .error n
    | some g' => runT g' (n + 1) xs

structure Tst where
  name : ByteArray
  how : Int
  v : Val
  deriving DecidableEq
structure Stp where
  bond : ByteArray
  back : Bool
  kind : ByteArray
  tests : List Tst
  deriving DecidableEq
def zVal : Val := ⟨0, 0, .empty⟩
/-- What is wrong with a test, a step, a path by itself. -/
def tstE (t : Tst) : Int := if nameE t.name ≠ 0 then nameE t.name else if t.how < 1 ∨ 4 < t.how then 1 else if t.how = 4 then (if t.v = zVal then 0 else 3) else valE t.v
def stpE (first : Bool) (x : Stp) : Int :=
  if nameE x.kind ≠ 0 then nameE x.kind
  else if first = true then (if x.bond ≠ .empty ∨ x.back = true then 3 else if 8 < x.tests.length then 4 else firstE tstE x.tests)
  else if nameE x.bond ≠ 0 then nameE x.bond else if 8 < x.tests.length then 4 else firstE tstE x.tests
def askE (l : List Stp) : Int := if l.length = 0 then 5 else if 6 < l.length then 4 else match l with | [] => 5 | x :: r => if stpE true x ≠ 0 then stpE true x else firstE (stpE false) r
/-! ### As text -/
def signT (h : Int) : List UInt8 := if h = 1 then [61] else if h = 2 then [33] else if h = 3 then [60] else []
def tstT (t : Tst) : List UInt8 := t.name.data.toList ++ (signT t.how ++ (if t.how = 4 then [] else showL t.v))
def tstsT (l : List Tst) : List UInt8 := if l = [] then [] else 91 :: (Lib.join (l.map tstT) [44] ++ [93])
def linkT (x : Stp) : List UInt8 := if x.back = true then [32, 60, 45] ++ x.bond.data.toList ++ [45, 32] else [32, 45] ++ x.bond.data.toList ++ [45, 62, 32]
def stpT (first : Bool) (x : Stp) : List UInt8 := (if first = true then [] else linkT x) ++ (x.kind.data.toList ++ tstsT x.tests)
def askT (l : List Stp) : List UInt8 := match l with | [] => [] | x :: r => stpT true x ++ r.flatMap (stpT false)
/-! ### Read -/
/-! ### What is read is shown as it was -/
theorem askT_snoc {acc : List Stp} (h : acc ≠ []) (x : Stp) : askT (acc ++ [x]) = askT acc ++ stpT false x := by
  cases acc with
  | nil => exact absurd rfl h
  | cons a r => show stpT true a ++ (r ++ [x]).flatMap (stpT false) = _; rw [List.flatMap_append]; simp [askT]
open Go Go.RowKit

def Tst.ok (t : Tst) : Prop := Sm t.name ∧ I64 t.how ∧ t.v.ok
def Tst.enc (t : Tst) : List Value := [.string t.name, .int .i64 t.how, .int .i64 t.v.ty, .int .i64 t.v.n, .string t.v.s]
def tstL : Lay Tst := flatL 5 Tst.ok Tst.enc (fun _ => rfl)
def stpL : Lay Stp where
  sz := 4
  cells w d cs := ∃ v, cs = [.string d.bond, .bool d.back, .string d.kind, v] ∧ Sm d.bond ∧ Sm d.kind ∧ Sl tstL w v d.tests
  len h := by obtain ⟨v, rfl, _⟩ := h; rfl
  below hb h := by obtain ⟨v, rfl, h1, h2, h⟩ := h; exact ⟨v, rfl, h1, h2, h.below hb⟩
section
variable {w : World} {A : Option Addr} {k n c : Nat}
theorem tst_all {l : List Tst} (h : Sl tstL w (.slice A n c) l) (hn : 0 < l.length) :
    ∃ b o, A = some ⟨b, o, none⟩ ∧ ∀ k d, l[k]? = some d → d.ok ∧ w.cell? ⟨b, o + k * 5, none⟩ = some (.string d.name) ∧ w.cell? ⟨b, o + k * 5 + 1, none⟩ = some (.int .i64 d.how) ∧ w.cell? ⟨b, o + k * 5 + 2, none⟩ = some (.int .i64 d.v.ty) ∧ w.cell? ⟨b, o + k * 5 + 3, none⟩ = some (.int .i64 d.v.n) ∧ w.cell? ⟨b, o + k * 5 + 4, none⟩ = some (.string d.v.s) := by
  obtain ⟨b, o, hA, hall⟩ := h.all hn
  refine ⟨b, o, hA, fun k d hk => ?_⟩
  obtain ⟨cs, ⟨rfl, ok⟩, hx⟩ := hall k d hk
  exact ⟨ok, hx 0 _ rfl, hx 1 _ rfl, hx 2 _ rfl, hx 3 _ rfl, hx 4 _ rfl⟩
theorem tst_at {l : List Tst} (h : Sl tstL w (.slice A n c) l) {d : Tst} (hk : l[k]? = some d) :
    ∃ b o, A = some ⟨b, o, none⟩ ∧ d.ok ∧ w.cell? ⟨b, o + k * 5, none⟩ = some (.string d.name) ∧ w.cell? ⟨b, o + k * 5 + 1, none⟩ = some (.int .i64 d.how) ∧ w.cell? ⟨b, o + k * 5 + 2, none⟩ = some (.int .i64 d.v.ty) ∧ w.cell? ⟨b, o + k * 5 + 3, none⟩ = some (.int .i64 d.v.n) ∧ w.cell? ⟨b, o + k * 5 + 4, none⟩ = some (.string d.v.s) := by
  obtain ⟨b, o, hA, hall⟩ := tst_all h (len_pos hk)
  exact ⟨b, o, hA, hall k d hk⟩
theorem stp_all {l : List Stp} (h : Sl stpL w (.slice A n c) l) (hn : 0 < l.length) :
    ∃ b o, A = some ⟨b, o, none⟩ ∧ ∀ k d, l[k]? = some d → ∃ u, Sm d.bond ∧ Sm d.kind ∧ Sl tstL w u d.tests ∧ w.cell? ⟨b, o + k * 4, none⟩ = some (.string d.bond) ∧ w.cell? ⟨b, o + k * 4 + 1, none⟩ = some (.bool d.back) ∧ w.cell? ⟨b, o + k * 4 + 2, none⟩ = some (.string d.kind) ∧ w.cell? ⟨b, o + k * 4 + 3, none⟩ = some u := by
  obtain ⟨b, o, hA, hall⟩ := h.all hn
  refine ⟨b, o, hA, fun k d hk => ?_⟩
  obtain ⟨cs, ⟨u, rfl, e1, e2, ok⟩, hx⟩ := hall k d hk
  exact ⟨u, e1, e2, ok, hx 0 _ rfl, hx 1 _ rfl, hx 2 _ rfl, hx 3 _ rfl⟩
theorem stp_at {l : List Stp} (h : Sl stpL w (.slice A n c) l) {d : Stp} (hk : l[k]? = some d) :
    ∃ b o, A = some ⟨b, o, none⟩ ∧ ∃ u, Sm d.bond ∧ Sm d.kind ∧ Sl tstL w u d.tests ∧ w.cell? ⟨b, o + k * 4, none⟩ = some (.string d.bond) ∧ w.cell? ⟨b, o + k * 4 + 1, none⟩ = some (.bool d.back) ∧ w.cell? ⟨b, o + k * 4 + 2, none⟩ = some (.string d.kind) ∧ w.cell? ⟨b, o + k * 4 + 3, none⟩ = some u := by
  obtain ⟨b, o, hA, hall⟩ := stp_all h (len_pos hk)
  exact ⟨b, o, hA, hall k d hk⟩
end
end Go.Proofs.YtakidgndipnciaaDoor
