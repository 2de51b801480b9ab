/- Values are weighed, copied and compared as they should be: plain laws. -/
import Derived.Test.YthjppgafienaoabGreatDoorFW
import Derived.Test.YthjppgafienaoabGreatDoorVMark
namespace Go.Proofs.YthjppgafienaoabGreatDoor.G
open Go.V
end Go.Proofs.YthjppgafienaoabGreatDoor.G
