/- Segments of the run, by the kernel. No condition. -/
import Derived.Test.YtgpdolhclinjdaaGreatDoorDs
import Derived.Test.YtgpdolhclinjdaaGreatDoorM17
set_option linter.unusedVariables false
set_option linter.unusedSimpArgs false
set_option linter.unusedSectionVars false
namespace Go.Proofs.YtgpdolhclinjdaaGreatDoor
open Go Go.Md
set_option maxRecDepth 1000000
set_option maxHeartbeats 0
noncomputable def b337 : Big := (big.set 100 (hMemo [m339,m681]))
theorem k337 : chkLeaves m337 (leavesF ft b337 27501 (entry 67 d67 m337.args m337.hin m337.nin)) = true := by kernel_rfl
noncomputable def b681 : Big := big
theorem k681 : chkLeaves m681 (leavesF ft b681 30294 (entry 100 d100 m681.args m681.hin m681.nin)) = true := by kernel_rfl
noncomputable def b2603 : Big := (big.set 189 (hMemo [m2604]))
theorem k2603 : chkLeaves m2603 (leavesF ft b2603 29896 (entry 187 d187 m2603.args m2603.hin m2603.nin)) = true := by kernel_rfl
noncomputable def b4833 : Big := ((big.set 155 (hMemo [m5016,m6121])).set 67 (hMemo [m6863]))
theorem k4833 : chkLeaves m4833 (leavesF ft b4833 31458 (entry 107 d107 m4833.args m4833.hin m4833.nin)) = true := by kernel_rfl
noncomputable def b5369 : Big := big
theorem k5369 : chkLeaves m5369 (leavesF ft b5369 28510 (entry 187 d187 m5369.args m5369.hin m5369.nin)) = true := by kernel_rfl
noncomputable def b6353 : Big := big
theorem k6353 : chkLeaves m6353 (leavesF ft b6353 25526 (entry 187 d187 m6353.args m6353.hin m6353.nin)) = true := by kernel_rfl
noncomputable def b9250 : Big := (big.set 222 (hMemo [m9345,m9464]))
theorem k9250 : chkLeaves m9250 (leavesF ft b9250 24702 (entry 114 d114 m9250.args m9250.hin m9250.nin)) = true := by kernel_rfl
noncomputable def b9464 : Big := big
theorem k9464 : chkLeaves m9464 (leavesF ft b9464 20104 (entry 222 d222 m9464.args m9464.hin m9464.nin)) = true := by kernel_rfl
noncomputable def b9769 : Big := big
theorem k9769 : chkLeaves m9769 (leavesF ft b9769 29117 (entry 115 d115 m9769.args m9769.hin m9769.nin)) = true := by kernel_rfl
end Go.Proofs.YtgpdolhclinjdaaGreatDoor
