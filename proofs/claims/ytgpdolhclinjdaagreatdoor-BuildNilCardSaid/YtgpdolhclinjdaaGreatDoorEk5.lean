/- Runs, one number after the other, by the kernel. No condition. -/
import Derived.Test.YtgpdolhclinjdaaGreatDoorEd
set_option linter.unusedVariables false
set_option linter.unusedSimpArgs false
set_option linter.unusedSectionVars false
namespace Go.Proofs.YtgpdolhclinjdaaGreatDoor
open Go Go.Md
set_option maxRecDepth 1000000
set_option maxHeartbeats 0
theorem e258 : allFrom runK 50 258 = true := by kernel_rfl
theorem e608 : allFrom runK 50 608 = true := by kernel_rfl
theorem e958 : allFrom runK 50 958 = true := by kernel_rfl
theorem e1308 : allFrom runK 50 1308 = true := by kernel_rfl
theorem e1658 : allFrom runK 50 1658 = true := by kernel_rfl
theorem e2008 : allFrom runK 50 2008 = true := by kernel_rfl
theorem e2358 : allFrom runK 50 2358 = true := by kernel_rfl
theorem e2708 : allFrom runK 50 2708 = true := by kernel_rfl
theorem e3058 : allFrom runK 50 3058 = true := by kernel_rfl
theorem e3408 : allFrom runK 50 3408 = true := by kernel_rfl
theorem e3758 : allFrom runK 50 3758 = true := by kernel_rfl
end Go.Proofs.YtgpdolhclinjdaaGreatDoor
