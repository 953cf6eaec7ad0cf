/- Segments of the run, by the kernel. No condition. -/
import Derived.Test.YtnkneinchiknmaaGreatDoorDs
import Derived.Test.YtnkneinchiknmaaGreatDoorM19
set_option linter.unusedVariables false
set_option linter.unusedSimpArgs false
set_option linter.unusedSectionVars false
namespace Go.Proofs.YtnkneinchiknmaaGreatDoor
open Go Go.Md
set_option maxRecDepth 1000000
set_option maxHeartbeats 0
noncomputable def b358 : Big := big
theorem k358 : chkLeaves m358 (leavesF ft b358 90284 (entry 138 d138 m358.args m358.hin m358.nin)) = true := by kernel_rfl
noncomputable def b1554 : Big := big
theorem k1554 : chkLeaves m1554 (leavesF ft b1554 88510 (entry 214 d214 m1554.args m1554.hin m1554.nin)) = true := by kernel_rfl
noncomputable def b2623 : Big := big
theorem k2623 : chkLeaves m2623 (leavesF ft b2623 88491 (entry 216 d216 m2623.args m2623.hin m2623.nin)) = true := by kernel_rfl
noncomputable def b4852 : Big := ((big.set 186 (hMemo [m5035,m6140])).set 114 (hMemo [m6882]))
theorem k4852 : chkLeaves m4852 (leavesF ft b4852 91458 (entry 145 d145 m4852.args m4852.hin m4852.nin)) = true := by kernel_rfl
noncomputable def b5035 : Big := ((big.set 214 (hMemo [m5388])).set 181 (hMemo [m5786]))
theorem k5035 : chkLeaves m5035 (leavesF ft b5035 89817 (entry 186 d186 m5035.args m5035.hin m5035.nin)) = true := by kernel_rfl
noncomputable def b6649 : Big := big
theorem k6649 : chkLeaves m6649 (leavesF ft b6649 85515 (entry 181 d181 m6649.args m6649.hin m6649.nin)) = true := by kernel_rfl
noncomputable def b9038 : Big := (big.set 249 (hMemo [m9130,m9241]))
theorem k9038 : chkLeaves m9038 (leavesF ft b9038 84702 (entry 152 d152 m9038.args m9038.hin m9038.nin)) = true := by kernel_rfl
noncomputable def b9500 : Big := big
theorem k9500 : chkLeaves m9500 (leavesF ft b9500 89106 (entry 153 d153 m9500.args m9500.hin m9500.nin)) = true := by kernel_rfl
noncomputable def b10916 : Big := big
theorem k10916 : chkLeaves m10916 (leavesF ft b10916 84285 (entry 28 d28 m10916.args m10916.hin m10916.nin)) = true := by kernel_rfl
noncomputable def b12012 : Big := (big.set 46 (hMemo [m12275]))
theorem k12012 : chkLeaves m12012 (leavesF ft b12012 90998 (entry 10 d10 m12012.args m12012.hin m12012.nin)) = true := by kernel_rfl
noncomputable def b13150 : Big := big
theorem k13150 : chkLeaves m13150 (leavesF ft b13150 84045 (entry 28 d28 m13150.args m13150.hin m13150.nin)) = true := by kernel_rfl
end Go.Proofs.YtnkneinchiknmaaGreatDoor
