/- Segments of the run, by the kernel. No condition. -/
import Derived.Test.YtgpdolhclinjdaaGreatDoorDs
import Derived.Test.YtgpdolhclinjdaaGreatDoorM17
set_option linter.unusedVariables false
set_option linter.unusedSimpArgs false
set_option linter.unusedSectionVars false
namespace Go.Proofs.YtgpdolhclinjdaaGreatDoor
open Go Go.Md
set_option maxRecDepth 1000000
set_option maxHeartbeats 0
noncomputable def b339 : Big := big
theorem k339 : chkLeaves m339 (leavesF ft b339 30284 (entry 100 d100 m339.args m339.hin m339.nin)) = true := by kernel_rfl
noncomputable def b1535 : Big := big
theorem k1535 : chkLeaves m1535 (leavesF ft b1535 28510 (entry 187 d187 m1535.args m1535.hin m1535.nin)) = true := by kernel_rfl
noncomputable def b2243 : Big := big
theorem k2243 : chkLeaves m2243 (leavesF ft b2243 28518 (entry 150 d150 m2243.args m2243.hin m2243.nin)) = true := by kernel_rfl
noncomputable def b2604 : Big := big
theorem k2604 : chkLeaves m2604 (leavesF ft b2604 28491 (entry 189 d189 m2604.args m2604.hin m2604.nin)) = true := by kernel_rfl
noncomputable def b7560 : Big := ((big.set 152 (hMemo [m7871])).set 67 (hMemo [m8073]))
theorem k7560 : chkLeaves m7560 (leavesF ft b7560 31968 (entry 41 d41 m7560.args m7560.hin m7560.nin)) = true := by kernel_rfl
noncomputable def b8696 : Big := ((big.set 114 (hMemo [m8914,m9019,m9250])).set 115 (hMemo [m9481,m9769]))
theorem k8696 : chkLeaves m8696 (leavesF ft b8696 29573 (entry 5 d5 m8696.args m8696.hin m8696.nin)) = true := by kernel_rfl
noncomputable def b9002 : Big := big
theorem k9002 : chkLeaves m9002 (leavesF ft b9002 20104 (entry 222 d222 m9002.args m9002.hin m9002.nin)) = true := by kernel_rfl
noncomputable def b9019 : Big := (big.set 222 (hMemo [m9111,m9222]))
theorem k9019 : chkLeaves m9019 (leavesF ft b9019 24702 (entry 114 d114 m9019.args m9019.hin m9019.nin)) = true := by kernel_rfl
noncomputable def b10194 : Big := big
theorem k10194 : chkLeaves m10194 (leavesF ft b10194 24747 (entry 5 d5 m10194.args m10194.hin m10194.nin)) = true := by kernel_rfl
end Go.Proofs.YtgpdolhclinjdaaGreatDoor
