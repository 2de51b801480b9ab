/- V: plain laws for rows that are marked, and held against their marks. -/
import Derived.Test.YtbgnhoggngbhhaaGreatDoorVPure
namespace Go.V
end Go.V
