/- Values are weighed, copied and compared as they should be: plain laws. -/
import Derived.Test.YtmakghhmpgfboaaGreatFP
import Derived.Test.YtmakghhmpgfboaaGreatVMark
set_option linter.unusedVariables false
set_option linter.unusedSimpArgs false
namespace Go.Proofs.YtmakghhmpgfboaaGreat.G
open Go.V
end Go.Proofs.YtmakghhmpgfboaaGreat.G
