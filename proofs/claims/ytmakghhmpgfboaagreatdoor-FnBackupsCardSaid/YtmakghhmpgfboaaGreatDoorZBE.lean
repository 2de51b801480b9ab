/- Values are weighed, copied and compared as they should be: plain laws. -/
import Derived.Test.YtmakghhmpgfboaaGreatDoorFB
import Derived.Test.YtmakghhmpgfboaaGreatDoorZBX
import Derived.Test.YtmakghhmpgfboaaGreatDoorVMark
set_option linter.unusedVariables false
set_option linter.unusedSimpArgs false
namespace Go.Proofs.YtmakghhmpgfboaaGreatDoor.G
open Go.V
end Go.Proofs.YtmakghhmpgfboaaGreatDoor.G
