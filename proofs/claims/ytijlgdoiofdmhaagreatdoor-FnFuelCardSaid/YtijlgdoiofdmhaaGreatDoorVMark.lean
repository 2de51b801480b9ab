/- V: plain laws for rows that are marked, and held against their marks. -/
import Derived.Test.YtijlgdoiofdmhaaGreatDoorVPure
namespace Go.V
section
variable {t:Ty}
theorem vw {xs:List t.d} {i j:Nat} {y z:t.d}:(xs.set i y).getD j z=if i=j∧j<xs.length then y else xs.getD j z:=by
 simp only [List.getD,List.getElem?_set]
 by_cases h:i=j
 · subst h
   by_cases q:i<xs.length
   · simp [q]
   · simp [q]
 · simp [h]
end
end Go.V
