/- Runs, one number after the other, by the kernel. No condition. -/
import Derived.Test.YtgpdolhclinjdaaGreatDoorEd
set_option linter.unusedVariables false
set_option linter.unusedSimpArgs false
set_option linter.unusedSectionVars false
namespace Go.Proofs.YtgpdolhclinjdaaGreatDoor
open Go Go.Md
set_option maxRecDepth 1000000
set_option maxHeartbeats 0
theorem e208 : allFrom runK 50 208 = true := by kernel_rfl
theorem e558 : allFrom runK 50 558 = true := by kernel_rfl
theorem e908 : allFrom runK 50 908 = true := by kernel_rfl
theorem e1258 : allFrom runK 50 1258 = true := by kernel_rfl
theorem e1608 : allFrom runK 50 1608 = true := by kernel_rfl
theorem e1958 : allFrom runK 50 1958 = true := by kernel_rfl
theorem e2308 : allFrom runK 50 2308 = true := by kernel_rfl
theorem e2658 : allFrom runK 50 2658 = true := by kernel_rfl
theorem e3008 : allFrom runK 50 3008 = true := by kernel_rfl
theorem e3358 : allFrom runK 50 3358 = true := by kernel_rfl
theorem e3708 : allFrom runK 50 3708 = true := by kernel_rfl
theorem e4058 : allFrom runK 39 4058 = true := by kernel_rfl
end Go.Proofs.YtgpdolhclinjdaaGreatDoor
