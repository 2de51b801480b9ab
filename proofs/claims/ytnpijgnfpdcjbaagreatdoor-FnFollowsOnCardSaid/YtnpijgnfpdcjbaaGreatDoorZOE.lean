/- Values are weighed, copied and compared as they should be: plain laws. -/
import Derived.Test.YtnpijgnfpdcjbaaGreatDoorFO
import Derived.Test.YtnpijgnfpdcjbaaGreatDoorVMark
set_option linter.unusedVariables false
set_option linter.unusedSimpArgs false
namespace Go.Proofs.YtnpijgnfpdcjbaaGreatDoor.G
open Go.V
end Go.Proofs.YtnpijgnfpdcjbaaGreatDoor.G
