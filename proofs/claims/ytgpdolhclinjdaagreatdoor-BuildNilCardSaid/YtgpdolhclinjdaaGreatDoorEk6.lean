/- Runs, one number after the other, by the kernel. No condition. -/
import Derived.Test.YtgpdolhclinjdaaGreatDoorEd
set_option linter.unusedVariables false
set_option linter.unusedSimpArgs false
set_option linter.unusedSectionVars false
namespace Go.Proofs.YtgpdolhclinjdaaGreatDoor
open Go Go.Md
set_option maxRecDepth 1000000
set_option maxHeartbeats 0
theorem e308 : allFrom runK 50 308 = true := by kernel_rfl
theorem e658 : allFrom runK 50 658 = true := by kernel_rfl
theorem e1008 : allFrom runK 50 1008 = true := by kernel_rfl
theorem e1358 : allFrom runK 50 1358 = true := by kernel_rfl
theorem e1708 : allFrom runK 50 1708 = true := by kernel_rfl
theorem e2058 : allFrom runK 50 2058 = true := by kernel_rfl
theorem e2408 : allFrom runK 50 2408 = true := by kernel_rfl
theorem e2758 : allFrom runK 50 2758 = true := by kernel_rfl
theorem e3108 : allFrom runK 50 3108 = true := by kernel_rfl
theorem e3458 : allFrom runK 50 3458 = true := by kernel_rfl
theorem e3808 : allFrom runK 50 3808 = true := by kernel_rfl
end Go.Proofs.YtgpdolhclinjdaaGreatDoor
