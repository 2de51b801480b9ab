/- Values are weighed, copied and compared as they should be: plain laws. -/
import Derived.Test.YtbgnhoggngbhhaaGreatDoorFU
import Derived.Test.YtbgnhoggngbhhaaGreatDoorZUX
import Derived.Test.YtbgnhoggngbhhaaGreatDoorVMark
set_option linter.unusedVariables false
set_option linter.unusedSimpArgs false
namespace Go.Proofs.YtbgnhoggngbhhaaGreatDoor.G
open Go.V
end Go.Proofs.YtbgnhoggngbhhaaGreatDoor.G
