/- Parts: OpenB. -/
import Derived.Test.YtakidgndipnciaaDoorMg21
/- Plain: the program's structs, read as data, lie as the layouts say (this program's numbers of types). -/
namespace Go.Proofs.YtakidgndipnciaaDoor
open Go Go.RowKit Go.Deep Go.ChangeShapes Go.WideShapes

theorem oStr : Opens Tryd.prog strL 9 := opens_str Tryd.underlying9
theorem oBool : Opens Tryd.prog boolL 4 := opens_bool Tryd.underlying4

theorem o_strs : Opens Tryd.prog (slL strL) 22 := Opens.slice Tryd.underlying22 (by kernel_rfl) (by decide) oStr

/-! ### Arguments -/
/-- A one-cell argument. -/
theorem arg_one {D : Type} {L : Lay D} {t : TypeId} {H : Type} {enc : TypeId × Value → H} {w : World} {base : Nat} {spare : Nat → Bool} {held : Bool} {v : Value} {d : DataW H} {p : List MemPlace}
    (ho : Opens Tryd.prog L t) (h : DataW.Trod enc Tryd.prog w base spare held t v d p) (hb : Rows.uptoBulk d ≤ 1048576) : ∃ x, L.cells w x v.cells.toList := by
  obtain ⟨fuel, hf⟩ := h
  exact ho H enc w base spare held fuel _ _ hf hb
end Go.Proofs.YtakidgndipnciaaDoor
