/- M: a directory's type. -/
import Derived.Test.YtegeiflafmpefaaMBase
import Derived.Test.YtegeiflafmpefaaEA
set_option linter.unusedVariables false
set_option linter.unusedSimpArgs false
namespace Go.Proofs.Ytegeiflafmpefaa.G
open Go.V
abbrev EntryL := List (Ty.den TEntry)
end Go.Proofs.Ytegeiflafmpefaa.G
