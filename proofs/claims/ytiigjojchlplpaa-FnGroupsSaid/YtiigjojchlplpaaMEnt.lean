/- M: a directory's type. -/
import Derived.Test.YtiigjojchlplpaaMBase
import Derived.Test.YtiigjojchlplpaaEA
set_option linter.unusedVariables false
set_option linter.unusedSimpArgs false
namespace Go.Proofs.Ytiigjojchlplpaa.G
open Go.V
abbrev EntryL := List (Ty.den TEntry)
end Go.Proofs.Ytiigjojchlplpaa.G
