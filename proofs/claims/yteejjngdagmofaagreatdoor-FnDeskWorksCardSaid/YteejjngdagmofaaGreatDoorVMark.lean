/- V: plain laws for rows that are marked, and held against their marks. -/
import Derived.Test.YteejjngdagmofaaGreatDoorVPure
namespace Go.V
end Go.V
