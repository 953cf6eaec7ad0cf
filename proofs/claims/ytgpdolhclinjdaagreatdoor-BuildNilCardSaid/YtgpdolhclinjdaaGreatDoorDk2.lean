/- Segments of the run, by the kernel. No condition. -/
import Derived.Test.YtgpdolhclinjdaaGreatDoorDs
import Derived.Test.YtgpdolhclinjdaaGreatDoorM17
set_option linter.unusedVariables false
set_option linter.unusedSimpArgs false
set_option linter.unusedSectionVars false
namespace Go.Proofs.YtgpdolhclinjdaaGreatDoor
open Go Go.Md
set_option maxRecDepth 1000000
set_option maxHeartbeats 0
noncomputable def b0 : Big := (big.set 6 (hMemo [m140]))
theorem k0 : chkLeaves m0 (leavesF ft b0 23007 (entry 12 d12 m0.args m0.hin m0.nin)) = true := by kernel_rfl
noncomputable def b1336 : Big := ((((big.set 147 (hMemo [m1534,m2602,m4084])).set 150 (hMemo [m2243,m3724])).set 152 (hMemo [m4789])).set 107 (hMemo [m4833]))
theorem k1336 : chkLeaves m1336 (leavesF ft b1336 30502 (entry 41 d41 m1336.args m1336.hin m1336.nin)) = true := by kernel_rfl
noncomputable def b1534 : Big := (big.set 187 (hMemo [m1535]))
theorem k1534 : chkLeaves m1534 (leavesF ft b1534 28493 (entry 147 d147 m1534.args m1534.hin m1534.nin)) = true := by kernel_rfl
noncomputable def b3724 : Big := big
theorem k3724 : chkLeaves m3724 (leavesF ft b3724 28546 (entry 150 d150 m3724.args m3724.hin m3724.nin)) = true := by kernel_rfl
noncomputable def b5016 : Big := ((big.set 187 (hMemo [m5369])).set 150 (hMemo [m5767]))
theorem k5016 : chkLeaves m5016 (leavesF ft b5016 29817 (entry 155 d155 m5016.args m5016.hin m5016.nin)) = true := by kernel_rfl
noncomputable def b5767 : Big := big
theorem k5767 : chkLeaves m5767 (leavesF ft b5767 28518 (entry 150 d150 m5767.args m5767.hin m5767.nin)) = true := by kernel_rfl
noncomputable def b6630 : Big := big
theorem k6630 : chkLeaves m6630 (leavesF ft b6630 25515 (entry 150 d150 m6630.args m6630.hin m6630.nin)) = true := by kernel_rfl
noncomputable def b6863 : Big := big
theorem k6863 : chkLeaves m6863 (leavesF ft b6863 31435 (entry 67 d67 m6863.args m6863.hin m6863.nin)) = true := by kernel_rfl
noncomputable def b7871 : Big := big
theorem k7871 : chkLeaves m7871 (leavesF ft b7871 20129 (entry 152 d152 m7871.args m7871.hin m7871.nin)) = true := by kernel_rfl
noncomputable def b9111 : Big := big
theorem k9111 : chkLeaves m9111 (leavesF ft b9111 20104 (entry 222 d222 m9111.args m9111.hin m9111.nin)) = true := by kernel_rfl
noncomputable def b9345 : Big := big
theorem k9345 : chkLeaves m9345 (leavesF ft b9345 20243 (entry 222 d222 m9345.args m9345.hin m9345.nin)) = true := by kernel_rfl
end Go.Proofs.YtgpdolhclinjdaaGreatDoor
