/- Runs, one number after the other, by the kernel. No condition. -/
import Derived.Test.YtgpdolhclinjdaaGreatDoorEd
set_option linter.unusedVariables false
set_option linter.unusedSimpArgs false
set_option linter.unusedSectionVars false
namespace Go.Proofs.YtgpdolhclinjdaaGreatDoor
open Go Go.Md
set_option maxRecDepth 1000000
set_option maxHeartbeats 0
theorem e8 : allFrom runK 50 8 = true := by kernel_rfl
theorem e358 : allFrom runK 50 358 = true := by kernel_rfl
theorem e708 : allFrom runK 50 708 = true := by kernel_rfl
theorem e1058 : allFrom runK 50 1058 = true := by kernel_rfl
theorem e1408 : allFrom runK 50 1408 = true := by kernel_rfl
theorem e1758 : allFrom runK 50 1758 = true := by kernel_rfl
theorem e2108 : allFrom runK 50 2108 = true := by kernel_rfl
theorem e2458 : allFrom runK 50 2458 = true := by kernel_rfl
theorem e2808 : allFrom runK 50 2808 = true := by kernel_rfl
theorem e3158 : allFrom runK 50 3158 = true := by kernel_rfl
theorem e3508 : allFrom runK 50 3508 = true := by kernel_rfl
theorem e3858 : allFrom runK 50 3858 = true := by kernel_rfl
theorem e0 : allFrom runK 8 0 = true := by kernel_rfl
theorem eNeg (m : Nat) : runN (.negSucc m) = true := by kernel_rfl
theorem eBig (m : Nat) : runN (.ofNat (m + 4097)) = true := by kernel_rfl
end Go.Proofs.YtgpdolhclinjdaaGreatDoor
