/- M: seals and marks. -/
import Derived.Test.YtiigjojchlplpaaMRec
set_option linter.unusedVariables false
set_option linter.unusedSimpArgs false
namespace Go.Proofs.Ytiigjojchlplpaa.G
open Go.V
abbrev RecL := List (Ty.den TRec)
def sealR (kind batch : Int) (l : RecL) : Ty.den TRec := (kind, (batch, (ByteArray.empty, (ByteArray.empty, ((l.length : Int), (sumM l, ()))))))
theorem specSeal_eq {k : Nat} (hk : 2 ^ 50 ≤ k) {l : RecL} (hl : l.length ≤ 1073741824) (b kd : Int) : spec_l9Seal.f k l b kd = some (sealR kd b l, ()) := by
  unfold spec_l9Seal.f spec_l9Seal.t
  rw [specSumOf_eq hk hl, Option.bind_some]
  rfl
end Go.Proofs.Ytiigjojchlplpaa.G
