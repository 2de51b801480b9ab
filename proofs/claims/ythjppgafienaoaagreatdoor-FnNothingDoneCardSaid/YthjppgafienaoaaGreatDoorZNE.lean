/- Values are weighed, copied and compared as they should be: plain laws. -/
import Derived.Test.YthjppgafienaoaaGreatDoorFN
import Derived.Test.YthjppgafienaoaaGreatDoorVMark
set_option linter.unusedVariables false
set_option linter.unusedSimpArgs false
namespace Go.Proofs.YthjppgafienaoaaGreatDoor.G
open Go.V
end Go.Proofs.YthjppgafienaoaaGreatDoor.G
