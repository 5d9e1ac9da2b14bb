/- Parts: OpenB. -/
import Derived.Test.YtmbeeaohidgfgaaDoorMg21
/- Plain: the program's structs, read as data, lie as the layouts say (this program's numbers of types). -/
namespace Go.Proofs.YtmbeeaohidgfgaaDoor
open Go Go.RowKit Go.Deep Go.ChangeShapes Go.WideShapes

/-! ### Arguments -/
end Go.Proofs.YtmbeeaohidgfgaaDoor
