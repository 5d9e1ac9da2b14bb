/- Parts: KinC. -/
import Derived.Test.YtmbeeaohidgfgaaDoorMg10
/- Contract: kind.KinOf: who comes of whom. -/
namespace Go.Proofs.YtmbeeaohidgfgaaDoor
open Go Go.RowKit Go.Shelf

attribute [local go_sem] Oper.semAt_some

end Go.Proofs.YtmbeeaohidgfgaaDoor
