/- Segments of the run, by the kernel. No condition. -/
import Derived.Test.YtnkneinchiknmaaGreatDoorDs
import Derived.Test.YtnkneinchiknmaaGreatDoorM19
set_option linter.unusedVariables false
set_option linter.unusedSimpArgs false
set_option linter.unusedSectionVars false
namespace Go.Proofs.YtnkneinchiknmaaGreatDoor
open Go Go.Md
set_option maxRecDepth 1000000
set_option maxHeartbeats 0
noncomputable def b2262 : Big := big
theorem k2262 : chkLeaves m2262 (leavesF ft b2262 88518 (entry 181 d181 m2262.args m2262.hin m2262.nin)) = true := by kernel_rfl
noncomputable def b2621 : Big := (big.set 214 (hMemo [m2622]))
theorem k2621 : chkLeaves m2621 (leavesF ft b2621 88503 (entry 178 d178 m2621.args m2621.hin m2621.nin)) = true := by kernel_rfl
noncomputable def b3743 : Big := big
theorem k3743 : chkLeaves m3743 (leavesF ft b3743 88546 (entry 181 d181 m3743.args m3743.hin m3743.nin)) = true := by kernel_rfl
noncomputable def b6140 : Big := ((big.set 214 (hMemo [m6372])).set 181 (hMemo [m6649]))
theorem k6140 : chkLeaves m6140 (leavesF ft b6140 86862 (entry 186 d186 m6140.args m6140.hin m6140.nin)) = true := by kernel_rfl
noncomputable def b7573 : Big := (big.set 89 (hMemo [m7579]))
theorem k7573 : chkLeaves m7573 (leavesF ft b7573 84697 (entry 42 d42 m7573.args m7573.hin m7573.nin)) = true := by kernel_rfl
noncomputable def b7579 : Big := ((big.set 183 (hMemo [m7890])).set 114 (hMemo [m8092]))
theorem k7579 : chkLeaves m7579 (leavesF ft b7579 91968 (entry 89 d89 m7579.args m7579.hin m7579.nin)) = true := by kernel_rfl
noncomputable def b7890 : Big := big
theorem k7890 : chkLeaves m7890 (leavesF ft b7890 80129 (entry 183 d183 m7890.args m7890.hin m7890.nin)) = true := by kernel_rfl
noncomputable def b8715 : Big := ((big.set 152 (hMemo [m8933,m9038,m9269])).set 153 (hMemo [m9500,m9788]))
theorem k8715 : chkLeaves m8715 (leavesF ft b8715 89573 (entry 42 d42 m8715.args m8715.hin m8715.nin)) = true := by kernel_rfl
noncomputable def b9241 : Big := big
theorem k9241 : chkLeaves m9241 (leavesF ft b9241 80198 (entry 249 d249 m9241.args m9241.hin m9241.nin)) = true := by kernel_rfl
noncomputable def b9364 : Big := big
theorem k9364 : chkLeaves m9364 (leavesF ft b9364 80243 (entry 249 d249 m9364.args m9364.hin m9364.nin)) = true := by kernel_rfl
noncomputable def b9483 : Big := big
theorem k9483 : chkLeaves m9483 (leavesF ft b9483 80104 (entry 249 d249 m9483.args m9483.hin m9483.nin)) = true := by kernel_rfl
noncomputable def b11746 : Big := big
theorem k11746 : chkLeaves m11746 (leavesF ft b11746 84045 (entry 28 d28 m11746.args m11746.hin m11746.nin)) = true := by kernel_rfl
noncomputable def b12011 : Big := ((big.set 10 (hMemo [m12012])).set 28 (hMemo [m12566,m13150]))
theorem k12011 : chkLeaves m12011 (leavesF ft b12011 90149 (entry 4 d4 m12011.args m12011.hin m12011.nin)) = true := by kernel_rfl
noncomputable def b12275 : Big := big
theorem k12275 : chkLeaves m12275 (leavesF ft b12275 81359 (entry 46 d46 m12275.args m12275.hin m12275.nin)) = true := by kernel_rfl
noncomputable def b13413 : Big := (big.set 46 (hMemo [m13676]))
theorem k13413 : chkLeaves m13413 (leavesF ft b13413 90998 (entry 10 d10 m13413.args m13413.hin m13413.nin)) = true := by kernel_rfl
end Go.Proofs.YtnkneinchiknmaaGreatDoor
