/- Values are weighed, copied and compared as they should be: plain laws. -/
import Derived.Test.YtckpkdiinmjdaaaGreatDoorFD
import Derived.Test.YtckpkdiinmjdaaaGreatDoorZDX
import Derived.Test.YtckpkdiinmjdaaaGreatDoorVMark
set_option linter.unusedVariables false
set_option linter.unusedSimpArgs false
namespace Go.Proofs.YtckpkdiinmjdaaaGreatDoor.G
open Go.V
end Go.Proofs.YtckpkdiinmjdaaaGreatDoor.G
