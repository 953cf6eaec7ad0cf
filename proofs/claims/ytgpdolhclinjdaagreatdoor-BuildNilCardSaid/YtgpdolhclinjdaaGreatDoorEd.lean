/- The runs of this law. Definitions. No condition. -/
import Derived.Test.YtgpdolhclinjdaaGreatDoorDi
import Derived.Test.YtgpdolhclinjdaaGreatDoorM18
set_option linter.unusedVariables false
set_option linter.unusedSimpArgs false
set_option linter.unusedSectionVars false
namespace Go.Proofs.YtgpdolhclinjdaaGreatDoor
open Go Go.Md
set_option maxRecDepth 1000000
set_option maxHeartbeats 0
noncomputable def bigN : Big := (big.set 12 (hConst [] (.bool true))).set 17 hPool
noncomputable def runN (n : Int) : Bool := trueOf (leavesF ft bigN 3000 (entry 3 d3 [.int .i64 n] .nil 4))
noncomputable def runK (k : Nat) : Bool := runN (.ofNat k)
end Go.Proofs.YtgpdolhclinjdaaGreatDoor
