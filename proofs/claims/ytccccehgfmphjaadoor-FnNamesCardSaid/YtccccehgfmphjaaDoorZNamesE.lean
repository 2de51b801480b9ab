/- Values are weighed, copied and compared as they should be: plain laws. -/
import Derived.Test.YtccccehgfmphjaaDoorFA
import Derived.Test.YtccccehgfmphjaaDoorZNamesX
import Derived.Test.YtccccehgfmphjaaDoorVMark
set_option linter.unusedVariables false
set_option linter.unusedSimpArgs false
namespace Go.Proofs.YtccccehgfmphjaaDoor.G
open Go.V

end Go.Proofs.YtccccehgfmphjaaDoor.G
