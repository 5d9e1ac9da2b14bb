/- Parts: FindA. -/
import Derived.Test.YtmbeeaohidgfgaaDoorMg14
/- Contracts: slices.BinarySearchFunc over nodes and properties, graph.Find, record.Find. -/
namespace Go.Proofs.YtmbeeaohidgfgaaDoor
open Go.RowKit

end Go.Proofs.YtmbeeaohidgfgaaDoor
