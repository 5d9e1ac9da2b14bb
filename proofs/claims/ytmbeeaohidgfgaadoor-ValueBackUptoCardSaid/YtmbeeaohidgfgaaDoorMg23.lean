/- Parts: OpenH. -/
import Derived.Test.YtmbeeaohidgfgaaDoorMg22
/- Plain: a value, a property as an argument. -/
namespace Go.Proofs.YtmbeeaohidgfgaaDoor
open Go Go.RowKit Go.Deep Go.ChangeShapes Go.WideShapes Go.Joins

set_option maxRecDepth 100000 in
theorem arg_val {H : Type} {enc : TypeId × Value → H} {w : World} {base b0 : Nat} {r : Reach} {spare : Nat → Bool} {held : Bool} {v : Value} {d : DataW H} {p : List MemPlace}
    (hv : Value.okWide Tryd.prog w r b0 34 v) (h : DataW.Trod enc Tryd.prog w base spare held 34 v d p) (hb : Rows.uptoBulk d ≤ 1048576) :
    ∃ n : Val, v = .agg #[.int .i64 n.ty, .int .i64 n.n, .string n.s] ∧ n.ok := by
  obtain ⟨n, e, h1⟩ := arg_one o_val h hb
  obtain ⟨cs, rfl, _⟩ := okWide_struct Tryd.underlying34 hv
  have e' : cs.toList = #[.int .i64 n.ty, .int .i64 n.n, .string n.s].toList := e
  exact ⟨n, by rw [Array.toList_inj.1 e'], h1⟩
end Go.Proofs.YtmbeeaohidgfgaaDoor
