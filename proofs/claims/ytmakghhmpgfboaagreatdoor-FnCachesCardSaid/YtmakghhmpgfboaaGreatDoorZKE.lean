/- Values are weighed, copied and compared as they should be: plain laws. -/
import Derived.Test.YtmakghhmpgfboaaGreatDoorFK
import Derived.Test.YtmakghhmpgfboaaGreatDoorZKX
import Derived.Test.YtmakghhmpgfboaaGreatDoorVMark
set_option linter.unusedVariables false
set_option linter.unusedSimpArgs false
namespace Go.Proofs.YtmakghhmpgfboaaGreatDoor.G
open Go.V
end Go.Proofs.YtmakghhmpgfboaaGreatDoor.G
