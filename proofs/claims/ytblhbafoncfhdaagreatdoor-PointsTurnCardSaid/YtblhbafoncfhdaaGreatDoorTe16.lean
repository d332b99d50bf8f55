/- Contracts of functions of the program: each computes what its model says; the conditions stand at each. -/
import Derived.Test.YtblhbafoncfhdaaGreatDoorTe15
set_option linter.unusedSimpArgs false
set_option linter.unusedVariables false
set_option maxRecDepth 20000
set_option pp.deepTerms false
set_option pp.deepTerms.threshold 3
namespace Go.Proofs.YtblhbafoncfhdaaGreatDoor
open Go Go.Ab Go.Pm Go.Cm Go.El Go.Rm
variable (G : Nat → AV) (H : Nat → Option AObj)
end Go.Proofs.YtblhbafoncfhdaaGreatDoor

