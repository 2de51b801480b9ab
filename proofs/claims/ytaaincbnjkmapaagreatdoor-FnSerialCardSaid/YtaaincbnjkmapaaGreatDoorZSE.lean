/- Values are weighed, copied and compared as they should be: plain laws. -/
import Derived.Test.YtaaincbnjkmapaaGreatDoorFS
import Derived.Test.YtaaincbnjkmapaaGreatDoorZSX
import Derived.Test.YtaaincbnjkmapaaGreatDoorVMark
set_option linter.unusedVariables false
set_option linter.unusedSimpArgs false
namespace Go.Proofs.YtaaincbnjkmapaaGreatDoor.G
open Go.V
end Go.Proofs.YtaaincbnjkmapaaGreatDoor.G
