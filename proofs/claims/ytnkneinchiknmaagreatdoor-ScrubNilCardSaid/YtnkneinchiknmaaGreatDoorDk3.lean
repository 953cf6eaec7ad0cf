/- Segments of the run, by the kernel. No condition. -/
import Derived.Test.YtnkneinchiknmaaGreatDoorDs
import Derived.Test.YtnkneinchiknmaaGreatDoorM19
set_option linter.unusedVariables false
set_option linter.unusedSimpArgs false
set_option linter.unusedSectionVars false
namespace Go.Proofs.YtnkneinchiknmaaGreatDoor
open Go Go.Md
set_option maxRecDepth 1000000
set_option maxHeartbeats 0
noncomputable def b1355 : Big := ((((big.set 178 (hMemo [m1553,m2621,m4103])).set 181 (hMemo [m2262,m3743])).set 183 (hMemo [m4808])).set 145 (hMemo [m4852]))
theorem k1355 : chkLeaves m1355 (leavesF ft b1355 90502 (entry 89 d89 m1355.args m1355.hin m1355.nin)) = true := by kernel_rfl
noncomputable def b1553 : Big := (big.set 214 (hMemo [m1554]))
theorem k1553 : chkLeaves m1553 (leavesF ft b1553 88493 (entry 178 d178 m1553.args m1553.hin m1553.nin)) = true := by kernel_rfl
noncomputable def b4103 : Big := big
theorem k4103 : chkLeaves m4103 (leavesF ft b4103 91016 (entry 178 d178 m4103.args m4103.hin m4103.nin)) = true := by kernel_rfl
noncomputable def b5786 : Big := big
theorem k5786 : chkLeaves m5786 (leavesF ft b5786 88518 (entry 181 d181 m5786.args m5786.hin m5786.nin)) = true := by kernel_rfl
noncomputable def b6372 : Big := big
theorem k6372 : chkLeaves m6372 (leavesF ft b6372 85526 (entry 214 d214 m6372.args m6372.hin m6372.nin)) = true := by kernel_rfl
noncomputable def b8092 : Big := big
theorem k8092 : chkLeaves m8092 (leavesF ft b8092 91387 (entry 114 d114 m8092.args m8092.hin m8092.nin)) = true := by kernel_rfl
noncomputable def b8933 : Big := (big.set 249 (hMemo [m8969,m9021]))
theorem k8933 : chkLeaves m8933 (leavesF ft b8933 81730 (entry 152 d152 m8933.args m8933.hin m8933.nin)) = true := by kernel_rfl
noncomputable def b9021 : Big := big
theorem k9021 : chkLeaves m9021 (leavesF ft b9021 80104 (entry 249 d249 m9021.args m9021.hin m9021.nin)) = true := by kernel_rfl
noncomputable def b9788 : Big := big
theorem k9788 : chkLeaves m9788 (leavesF ft b9788 89117 (entry 153 d153 m9788.args m9788.hin m9788.nin)) = true := by kernel_rfl
noncomputable def b10213 : Big := big
theorem k10213 : chkLeaves m10213 (leavesF ft b10213 84747 (entry 42 d42 m10213.args m10213.hin m10213.nin)) = true := by kernel_rfl
noncomputable def b10361 : Big := ((big.set 10 (hMemo [m10362])).set 28 (hMemo [m10916,m11454,m11746]))
theorem k10361 : chkLeaves m10361 (leavesF ft b10361 89611 (entry 4 d4 m10361.args m10361.hin m10361.nin)) = true := by kernel_rfl
noncomputable def b11454 : Big := big
theorem k11454 : chkLeaves m11454 (leavesF ft b11454 84285 (entry 28 d28 m11454.args m11454.hin m11454.nin)) = true := by kernel_rfl
noncomputable def b13676 : Big := big
theorem k13676 : chkLeaves m13676 (leavesF ft b13676 81359 (entry 46 d46 m13676.args m13676.hin m13676.nin)) = true := by kernel_rfl
end Go.Proofs.YtnkneinchiknmaaGreatDoor
