/- Values are weighed, copied and compared as they should be: plain laws. -/
import Derived.Test.YteejjngdagmofaaGreatDoorFK
import Derived.Test.YteejjngdagmofaaGreatDoorZKX
import Derived.Test.YteejjngdagmofaaGreatDoorVMark
set_option linter.unusedVariables false
set_option linter.unusedSimpArgs false
namespace Go.Proofs.YteejjngdagmofaaGreatDoor.G
open Go.V
end Go.Proofs.YteejjngdagmofaaGreatDoor.G
