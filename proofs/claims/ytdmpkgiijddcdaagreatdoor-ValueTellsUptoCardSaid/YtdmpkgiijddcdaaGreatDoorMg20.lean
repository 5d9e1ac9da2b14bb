/- Parts: SamS, Qg, IntS. -/
import Derived.Test.YtdmpkgiijddcdaaGreatDoorMg14
import Derived.Test.YtdmpkgiijddcdaaGreatDoorMg09
import Derived.Test.YtdmpkgiijddcdaaGreatDoorMg08
import Derived.Deep.DeepCutAuto
import Derived.Test.YtdmpkgiijddcdaaGreatDoorMg07
/- Contract: kinsame.Schema, at two that read the same. No condition. -/
namespace Go.Proofs.YtdmpkgiijddcdaaGreatDoor
open Go Go.RowKit

open Go Go.RowKit Go.Sort
section
variable {P : Program} {ops : Array Oper} {md : Region.Mode} {C : World → Prop}
end


end Go.Proofs.YtdmpkgiijddcdaaGreatDoor
