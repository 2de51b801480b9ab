/- M: a number among numbers. -/
import Derived.Test.YtiigjojchlplpaaMBase
set_option linter.unusedVariables false
set_option linter.unusedSimpArgs false
namespace Go.Proofs.Ytiigjojchlplpaa.G
open Go.V
def hasN (l : List Int) (x : Int) : Bool := l.any fun y => y == x
end Go.Proofs.Ytiigjojchlplpaa.G
