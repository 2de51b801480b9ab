/- Values are weighed, copied and compared as they should be: plain laws. -/
import Derived.Test.YtckpkdiinmjdaaaGreatDoorFQ
import Derived.Test.YtckpkdiinmjdaaaGreatDoorVMark
set_option linter.unusedVariables false
set_option linter.unusedSimpArgs false
namespace Go.Proofs.YtckpkdiinmjdaaaGreatDoor.G
open Go.V
end Go.Proofs.YtckpkdiinmjdaaaGreatDoor.G
