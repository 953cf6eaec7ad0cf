/- Runs, one number after the other, by the kernel. No condition. -/
import Derived.Test.YtgpdolhclinjdaaGreatDoorEd
set_option linter.unusedVariables false
set_option linter.unusedSimpArgs false
set_option linter.unusedSectionVars false
namespace Go.Proofs.YtgpdolhclinjdaaGreatDoor
open Go Go.Md
set_option maxRecDepth 1000000
set_option maxHeartbeats 0
theorem e58 : allFrom runK 50 58 = true := by kernel_rfl
theorem e408 : allFrom runK 50 408 = true := by kernel_rfl
theorem e758 : allFrom runK 50 758 = true := by kernel_rfl
theorem e1108 : allFrom runK 50 1108 = true := by kernel_rfl
theorem e1458 : allFrom runK 50 1458 = true := by kernel_rfl
theorem e1808 : allFrom runK 50 1808 = true := by kernel_rfl
theorem e2158 : allFrom runK 50 2158 = true := by kernel_rfl
theorem e2508 : allFrom runK 50 2508 = true := by kernel_rfl
theorem e2858 : allFrom runK 50 2858 = true := by kernel_rfl
theorem e3208 : allFrom runK 50 3208 = true := by kernel_rfl
theorem e3558 : allFrom runK 50 3558 = true := by kernel_rfl
theorem e3908 : allFrom runK 50 3908 = true := by kernel_rfl
end Go.Proofs.YtgpdolhclinjdaaGreatDoor
