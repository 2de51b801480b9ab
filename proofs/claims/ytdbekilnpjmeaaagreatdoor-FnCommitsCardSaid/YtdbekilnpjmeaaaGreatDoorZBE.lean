/- Values are weighed, copied and compared as they should be: plain laws. -/
import Derived.Test.YtdbekilnpjmeaaaGreatDoorFB
import Derived.Test.YtdbekilnpjmeaaaGreatDoorVMark
set_option linter.unusedVariables false
set_option linter.unusedSimpArgs false
namespace Go.Proofs.YtdbekilnpjmeaaaGreatDoor.G
open Go.V
end Go.Proofs.YtdbekilnpjmeaaaGreatDoor.G
