/- The handlers of this law. No condition. -/
import Derived.Test.YtgpdolhclinjdaaGreatDoorDo
import Derived.Test.YtgpdolhclinjdaaGreatDoorEd
set_option linter.unusedVariables false
set_option linter.unusedSimpArgs false
set_option linter.unusedSectionVars false
namespace Go.Proofs.YtgpdolhclinjdaaGreatDoor
open Go Go.Md
set_option maxRecDepth 1000000
set_option maxHeartbeats 0
theorem okWorks : HOk Tryz.prog ft 12 (hConst [] (.bool true)) := hConstM_ok (hout := m0.hout) (nout := m0.nout) (show MemoOk Tryz.prog ft 12 ⟨[], .nil, Tryz.prog.globals.size, .bool true, m0.hout, m0.nout⟩ by rw [← hG]; exact ok0)
theorem okPool : HOk Tryz.prog ft 17 hPool := hPool_ok hft hmix (show ft.get 17 = some dPool by kernel_rfl)
theorem bigNAll : BigAll Tryz.prog ft bigN := bigAll_set (bigAll_set bigAll hft (df := d12) (by kernel_rfl) okWorks) hft (df := d17) (by kernel_rfl) okPool
end Go.Proofs.YtgpdolhclinjdaaGreatDoor
