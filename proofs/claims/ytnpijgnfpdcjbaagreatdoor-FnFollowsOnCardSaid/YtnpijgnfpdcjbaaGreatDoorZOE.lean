/- Values are weighed, copied and compared as they should be: plain laws. -/
import Derived.Test.YtnpijgnfpdcjbaaGreatDoorFO
import Derived.Test.YtnpijgnfpdcjbaaGreatDoorVMark
namespace Go.Proofs.YtnpijgnfpdcjbaaGreatDoor.G
open Go.V
end Go.Proofs.YtnpijgnfpdcjbaaGreatDoor.G
