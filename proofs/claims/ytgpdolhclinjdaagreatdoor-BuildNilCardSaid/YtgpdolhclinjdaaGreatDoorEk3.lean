/- Runs, one number after the other, by the kernel. No condition. -/
import Derived.Test.YtgpdolhclinjdaaGreatDoorEd
set_option linter.unusedVariables false
set_option linter.unusedSimpArgs false
set_option linter.unusedSectionVars false
namespace Go.Proofs.YtgpdolhclinjdaaGreatDoor
open Go Go.Md
set_option maxRecDepth 1000000
set_option maxHeartbeats 0
theorem e158 : allFrom runK 50 158 = true := by kernel_rfl
theorem e508 : allFrom runK 50 508 = true := by kernel_rfl
theorem e858 : allFrom runK 50 858 = true := by kernel_rfl
theorem e1208 : allFrom runK 50 1208 = true := by kernel_rfl
theorem e1558 : allFrom runK 50 1558 = true := by kernel_rfl
theorem e1908 : allFrom runK 50 1908 = true := by kernel_rfl
theorem e2258 : allFrom runK 50 2258 = true := by kernel_rfl
theorem e2608 : allFrom runK 50 2608 = true := by kernel_rfl
theorem e2958 : allFrom runK 50 2958 = true := by kernel_rfl
theorem e3308 : allFrom runK 50 3308 = true := by kernel_rfl
theorem e3658 : allFrom runK 50 3658 = true := by kernel_rfl
theorem e4008 : allFrom runK 50 4008 = true := by kernel_rfl
end Go.Proofs.YtgpdolhclinjdaaGreatDoor
