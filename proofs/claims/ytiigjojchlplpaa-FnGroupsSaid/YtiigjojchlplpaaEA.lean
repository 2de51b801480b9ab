/- Values are weighed, copied and compared as they should be: plain laws. -/
import Derived.Test.YtiigjojchlplpaaFA
import Derived.Test.YtiigjojchlplpaaVMark
set_option linter.unusedVariables false
set_option linter.unusedSimpArgs false
namespace Go.Proofs.Ytiigjojchlplpaa.G
open Go.V

end Go.Proofs.Ytiigjojchlplpaa.G
