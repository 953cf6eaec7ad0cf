/- Runs, one number after the other, by the kernel. No condition. -/
import Derived.Test.YtgpdolhclinjdaaGreatDoorEd
set_option linter.unusedVariables false
set_option linter.unusedSimpArgs false
set_option linter.unusedSectionVars false
namespace Go.Proofs.YtgpdolhclinjdaaGreatDoor
open Go Go.Md
set_option maxRecDepth 1000000
set_option maxHeartbeats 0
theorem e108 : allFrom runK 50 108 = true := by kernel_rfl
theorem e458 : allFrom runK 50 458 = true := by kernel_rfl
theorem e808 : allFrom runK 50 808 = true := by kernel_rfl
theorem e1158 : allFrom runK 50 1158 = true := by kernel_rfl
theorem e1508 : allFrom runK 50 1508 = true := by kernel_rfl
theorem e1858 : allFrom runK 50 1858 = true := by kernel_rfl
theorem e2208 : allFrom runK 50 2208 = true := by kernel_rfl
theorem e2558 : allFrom runK 50 2558 = true := by kernel_rfl
theorem e2908 : allFrom runK 50 2908 = true := by kernel_rfl
theorem e3258 : allFrom runK 50 3258 = true := by kernel_rfl
theorem e3608 : allFrom runK 50 3608 = true := by kernel_rfl
theorem e3958 : allFrom runK 50 3958 = true := by kernel_rfl
end Go.Proofs.YtgpdolhclinjdaaGreatDoor
