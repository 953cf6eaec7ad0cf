/- Segments of the run, by the kernel. No condition. -/
import Derived.Test.YtnkneinchiknmaaGreatDoorDs
import Derived.Test.YtnkneinchiknmaaGreatDoorM19
set_option linter.unusedVariables false
set_option linter.unusedSimpArgs false
set_option linter.unusedSectionVars false
namespace Go.Proofs.YtnkneinchiknmaaGreatDoor
open Go Go.Md
set_option maxRecDepth 1000000
set_option maxHeartbeats 0
noncomputable def b0 : Big := ((((big.set 42 (hMemo [m164,m7573,m8715,m10213])).set 89 (hMemo [m1355])).set 4 (hMemo [m10361,m12011])).set 10 (hMemo [m13413]))
theorem k0 : chkLeaves m0 (leavesF ft b0 89091 (entry 3 d3 m0.args m0.hin m0.nin)) = true := by kernel_rfl
noncomputable def b164 : Big := (big.set 114 (hMemo [m356]))
theorem k164 : chkLeaves m164 (leavesF ft b164 87080 (entry 42 d42 m164.args m164.hin m164.nin)) = true := by kernel_rfl
noncomputable def b356 : Big := (big.set 138 (hMemo [m358,m700]))
theorem k356 : chkLeaves m356 (leavesF ft b356 87501 (entry 114 d114 m356.args m356.hin m356.nin)) = true := by kernel_rfl
noncomputable def b700 : Big := big
theorem k700 : chkLeaves m700 (leavesF ft b700 90294 (entry 138 d138 m700.args m700.hin m700.nin)) = true := by kernel_rfl
noncomputable def b2622 : Big := (big.set 216 (hMemo [m2623]))
theorem k2622 : chkLeaves m2622 (leavesF ft b2622 89896 (entry 214 d214 m2622.args m2622.hin m2622.nin)) = true := by kernel_rfl
noncomputable def b4808 : Big := big
theorem k4808 : chkLeavesS [[(4266,4267)],[(4265,4267)],[(4264,4267)],[(4263,4267)],[(4262,4267)],[(4261,4267)]] m4808 (leavesF ft b4808 80808 (entry 183 d183 m4808.args m4808.hin m4808.nin)) = true := by kernel_rfl
noncomputable def b5388 : Big := big
theorem k5388 : chkLeaves m5388 (leavesF ft b5388 88510 (entry 214 d214 m5388.args m5388.hin m5388.nin)) = true := by kernel_rfl
noncomputable def b6882 : Big := big
theorem k6882 : chkLeaves m6882 (leavesF ft b6882 91435 (entry 114 d114 m6882.args m6882.hin m6882.nin)) = true := by kernel_rfl
noncomputable def b8969 : Big := big
theorem k8969 : chkLeaves m8969 (leavesF ft b8969 80104 (entry 249 d249 m8969.args m8969.hin m8969.nin)) = true := by kernel_rfl
noncomputable def b9130 : Big := big
theorem k9130 : chkLeaves m9130 (leavesF ft b9130 80104 (entry 249 d249 m9130.args m9130.hin m9130.nin)) = true := by kernel_rfl
noncomputable def b9269 : Big := (big.set 249 (hMemo [m9364,m9483]))
theorem k9269 : chkLeaves m9269 (leavesF ft b9269 84702 (entry 152 d152 m9269.args m9269.hin m9269.nin)) = true := by kernel_rfl
noncomputable def b10362 : Big := (big.set 46 (hMemo [m10625]))
theorem k10362 : chkLeaves m10362 (leavesF ft b10362 90998 (entry 10 d10 m10362.args m10362.hin m10362.nin)) = true := by kernel_rfl
noncomputable def b10625 : Big := big
theorem k10625 : chkLeaves m10625 (leavesF ft b10625 81359 (entry 46 d46 m10625.args m10625.hin m10625.nin)) = true := by kernel_rfl
noncomputable def b12566 : Big := big
theorem k12566 : chkLeaves m12566 (leavesF ft b12566 84285 (entry 28 d28 m12566.args m12566.hin m12566.nin)) = true := by kernel_rfl
end Go.Proofs.YtnkneinchiknmaaGreatDoor
