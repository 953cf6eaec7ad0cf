/- Segments of the run, by the kernel. No condition. -/
import Derived.Test.YtgpdolhclinjdaaGreatDoorDs
import Derived.Test.YtgpdolhclinjdaaGreatDoorM17
set_option linter.unusedVariables false
set_option linter.unusedSimpArgs false
set_option linter.unusedSectionVars false
namespace Go.Proofs.YtgpdolhclinjdaaGreatDoor
open Go Go.Md
set_option maxRecDepth 1000000
set_option maxHeartbeats 0
noncomputable def b140 : Big := ((big.set 5 (hMemo [m145,m8696,m10194])).set 41 (hMemo [m1336,m7560]))
theorem k140 : chkLeaves m140 (leavesF ft b140 29326 (entry 6 d6 m140.args m140.hin m140.nin)) = true := by kernel_rfl
noncomputable def b145 : Big := (big.set 67 (hMemo [m337]))
theorem k145 : chkLeaves m145 (leavesF ft b145 27080 (entry 5 d5 m145.args m145.hin m145.nin)) = true := by kernel_rfl
noncomputable def b2602 : Big := (big.set 187 (hMemo [m2603]))
theorem k2602 : chkLeaves m2602 (leavesF ft b2602 28503 (entry 147 d147 m2602.args m2602.hin m2602.nin)) = true := by kernel_rfl
noncomputable def b4084 : Big := big
theorem k4084 : chkLeaves m4084 (leavesF ft b4084 31016 (entry 147 d147 m4084.args m4084.hin m4084.nin)) = true := by kernel_rfl
noncomputable def b4789 : Big := big
theorem k4789 : chkLeavesS [[(4249,4250)],[(4248,4250)],[(4247,4250)],[(4246,4250)],[(4245,4250)]] m4789 (leavesF ft b4789 20808 (entry 152 d152 m4789.args m4789.hin m4789.nin)) = true := by kernel_rfl
noncomputable def b6121 : Big := ((big.set 187 (hMemo [m6353])).set 150 (hMemo [m6630]))
theorem k6121 : chkLeaves m6121 (leavesF ft b6121 26862 (entry 155 d155 m6121.args m6121.hin m6121.nin)) = true := by kernel_rfl
noncomputable def b8073 : Big := big
theorem k8073 : chkLeaves m8073 (leavesF ft b8073 31387 (entry 67 d67 m8073.args m8073.hin m8073.nin)) = true := by kernel_rfl
noncomputable def b8914 : Big := (big.set 222 (hMemo [m8950,m9002]))
theorem k8914 : chkLeaves m8914 (leavesF ft b8914 21730 (entry 114 d114 m8914.args m8914.hin m8914.nin)) = true := by kernel_rfl
noncomputable def b8950 : Big := big
theorem k8950 : chkLeaves m8950 (leavesF ft b8950 20104 (entry 222 d222 m8950.args m8950.hin m8950.nin)) = true := by kernel_rfl
noncomputable def b9222 : Big := big
theorem k9222 : chkLeaves m9222 (leavesF ft b9222 20198 (entry 222 d222 m9222.args m9222.hin m9222.nin)) = true := by kernel_rfl
noncomputable def b9481 : Big := big
theorem k9481 : chkLeaves m9481 (leavesF ft b9481 29106 (entry 115 d115 m9481.args m9481.hin m9481.nin)) = true := by kernel_rfl
end Go.Proofs.YtgpdolhclinjdaaGreatDoor
