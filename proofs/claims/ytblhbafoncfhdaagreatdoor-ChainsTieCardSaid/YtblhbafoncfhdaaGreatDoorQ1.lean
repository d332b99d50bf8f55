/- Contracts of functions of the program: each computes what its model says; the conditions stand at each. -/
import Derived.Test.YtblhbafoncfhdaaGreatDoorP1
import Derived.Test.YtblhbafoncfhdaaGreatDoorA5
import Derived.Test.YtblhbafoncfhdaaGreatDoorTc3
import Derived.Test.YtblhbafoncfhdaaGreatDoorB1
import Derived.Test.YtblhbafoncfhdaaGreatDoorB2
set_option linter.unusedSimpArgs false
set_option linter.unusedVariables false
set_option maxRecDepth 20000
namespace Go.Proofs.YtblhbafoncfhdaaGreatDoor
open Go Go.Ab Go.Pm Go.Cm Go.El Go.Rm Go.Pp Go.Uf
variable (G : Nat → AV) (H : Nat → Option AObj)
theorem text_size : ∀ t ∈ texts, t.size ≤ 201 := by
 have h : (texts.all fun t => decide (t.size ≤ 201)) = true := by decide +kernel
 intro t ht
 simpa using List.all_eq_true.1 h t ht
end Go.Proofs.YtblhbafoncfhdaaGreatDoor
