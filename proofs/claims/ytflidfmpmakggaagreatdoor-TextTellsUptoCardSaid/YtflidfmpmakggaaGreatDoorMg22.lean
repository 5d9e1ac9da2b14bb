/- Parts: SamS. -/
import Derived.Test.YtflidfmpmakggaaGreatDoorMg06
import Derived.Test.YtflidfmpmakggaaGreatDoorMg07
import Derived.Test.YtflidfmpmakggaaGreatDoorMg05
import Derived.Deep.DeepCutAuto
/- Contract: kinsame.Schema, at two that read the same. No condition. -/
namespace Go.Proofs.YtflidfmpmakggaaGreatDoor
open Go Go.RowKit

end Go.Proofs.YtflidfmpmakggaaGreatDoor
