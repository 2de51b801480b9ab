/- Values are weighed, copied and compared as they should be: plain laws. -/
import Derived.Test.YtijlgdoiofdmhaaGreatDoorFK
import Derived.Test.YtijlgdoiofdmhaaGreatDoorVMark
set_option linter.unusedVariables false
set_option linter.unusedSimpArgs false
namespace Go.Proofs.YtijlgdoiofdmhaaGreatDoor.G
open Go.V
end Go.Proofs.YtijlgdoiofdmhaaGreatDoor.G
