/- Plain laws over what package consent computes; the conditions stand at each. -/
import Derived.Test.YthcedgclhoggcaaGreatDoorCl2
import Derived.Test.YthcedgclhoggcaaGreatDoorTw26
/-! An answer rests on its proof. -/
set_option linter.unusedVariables false
set_option linter.unusedSimpArgs false
namespace Go.Proofs.YthcedgclhoggcaaGreatDoor
open Go Go.Ab Go.Pm Go.Cm
end Go.Proofs.YthcedgclhoggcaaGreatDoor

