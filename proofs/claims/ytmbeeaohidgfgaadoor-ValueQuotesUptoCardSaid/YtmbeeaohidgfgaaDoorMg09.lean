/- Parts: KinA. -/
import Derived.Test.YtmbeeaohidgfgaaDoorMg07
import Derived.Test.YtmbeeaohidgfgaaDoorMg08
import Derived.Maps.OwnIn
import Derived.Maps.Views
import Derived.StringKeys
import Derived.Test.YtmbeeaohidgfgaaDoorRows
/- Plain: a map from texts to bools that the call made, as a set; the kin of a kind; an append inside a fence. -/
namespace Go.Proofs.YtmbeeaohidgfgaaDoor
open Go Go.RowKit
open Go.Maps (Keyed)

/-! ### Kin -/
/-! ### A set of texts in memory -/
end Go.Proofs.YtmbeeaohidgfgaaDoor
