/- Values are weighed, copied and compared as they should be: plain laws. -/
import Derived.Test.YtegeiflafmpefaaFA
import Derived.Test.YtegeiflafmpefaaVMark
set_option linter.unusedVariables false
set_option linter.unusedSimpArgs false
namespace Go.Proofs.Ytegeiflafmpefaa.G
open Go.V

end Go.Proofs.Ytegeiflafmpefaa.G
