/- All numbers. No condition. -/
import Derived.Test.YtgpdolhclinjdaaGreatDoorEh
import Derived.Test.YtgpdolhclinjdaaGreatDoorEk0
import Derived.Test.YtgpdolhclinjdaaGreatDoorEk1
import Derived.Test.YtgpdolhclinjdaaGreatDoorEk2
import Derived.Test.YtgpdolhclinjdaaGreatDoorEk3
import Derived.Test.YtgpdolhclinjdaaGreatDoorEk4
import Derived.Test.YtgpdolhclinjdaaGreatDoorEk5
import Derived.Test.YtgpdolhclinjdaaGreatDoorEk6
set_option linter.unusedVariables false
set_option linter.unusedSimpArgs false
set_option linter.unusedSectionVars false
namespace Go.Proofs.YtgpdolhclinjdaaGreatDoor
open Go Go.Md
set_option maxRecDepth 1000000
set_option maxHeartbeats 0
theorem eMid (k : Nat) (h1 : 8 ≤ k) (h2 : k < 4097) : runK k = true := by
  by_cases h8 : k < 58
  · exact allFrom_spec e8 k (by omega) (by omega)
  by_cases h58 : k < 108
  · exact allFrom_spec e58 k (by omega) (by omega)
  by_cases h108 : k < 158
  · exact allFrom_spec e108 k (by omega) (by omega)
  by_cases h158 : k < 208
  · exact allFrom_spec e158 k (by omega) (by omega)
  by_cases h208 : k < 258
  · exact allFrom_spec e208 k (by omega) (by omega)
  by_cases h258 : k < 308
  · exact allFrom_spec e258 k (by omega) (by omega)
  by_cases h308 : k < 358
  · exact allFrom_spec e308 k (by omega) (by omega)
  by_cases h358 : k < 408
  · exact allFrom_spec e358 k (by omega) (by omega)
  by_cases h408 : k < 458
  · exact allFrom_spec e408 k (by omega) (by omega)
  by_cases h458 : k < 508
  · exact allFrom_spec e458 k (by omega) (by omega)
  by_cases h508 : k < 558
  · exact allFrom_spec e508 k (by omega) (by omega)
  by_cases h558 : k < 608
  · exact allFrom_spec e558 k (by omega) (by omega)
  by_cases h608 : k < 658
  · exact allFrom_spec e608 k (by omega) (by omega)
  by_cases h658 : k < 708
  · exact allFrom_spec e658 k (by omega) (by omega)
  by_cases h708 : k < 758
  · exact allFrom_spec e708 k (by omega) (by omega)
  by_cases h758 : k < 808
  · exact allFrom_spec e758 k (by omega) (by omega)
  by_cases h808 : k < 858
  · exact allFrom_spec e808 k (by omega) (by omega)
  by_cases h858 : k < 908
  · exact allFrom_spec e858 k (by omega) (by omega)
  by_cases h908 : k < 958
  · exact allFrom_spec e908 k (by omega) (by omega)
  by_cases h958 : k < 1008
  · exact allFrom_spec e958 k (by omega) (by omega)
  by_cases h1008 : k < 1058
  · exact allFrom_spec e1008 k (by omega) (by omega)
  by_cases h1058 : k < 1108
  · exact allFrom_spec e1058 k (by omega) (by omega)
  by_cases h1108 : k < 1158
  · exact allFrom_spec e1108 k (by omega) (by omega)
  by_cases h1158 : k < 1208
  · exact allFrom_spec e1158 k (by omega) (by omega)
  by_cases h1208 : k < 1258
  · exact allFrom_spec e1208 k (by omega) (by omega)
  by_cases h1258 : k < 1308
  · exact allFrom_spec e1258 k (by omega) (by omega)
  by_cases h1308 : k < 1358
  · exact allFrom_spec e1308 k (by omega) (by omega)
  by_cases h1358 : k < 1408
  · exact allFrom_spec e1358 k (by omega) (by omega)
  by_cases h1408 : k < 1458
  · exact allFrom_spec e1408 k (by omega) (by omega)
  by_cases h1458 : k < 1508
  · exact allFrom_spec e1458 k (by omega) (by omega)
  by_cases h1508 : k < 1558
  · exact allFrom_spec e1508 k (by omega) (by omega)
  by_cases h1558 : k < 1608
  · exact allFrom_spec e1558 k (by omega) (by omega)
  by_cases h1608 : k < 1658
  · exact allFrom_spec e1608 k (by omega) (by omega)
  by_cases h1658 : k < 1708
  · exact allFrom_spec e1658 k (by omega) (by omega)
  by_cases h1708 : k < 1758
  · exact allFrom_spec e1708 k (by omega) (by omega)
  by_cases h1758 : k < 1808
  · exact allFrom_spec e1758 k (by omega) (by omega)
  by_cases h1808 : k < 1858
  · exact allFrom_spec e1808 k (by omega) (by omega)
  by_cases h1858 : k < 1908
  · exact allFrom_spec e1858 k (by omega) (by omega)
  by_cases h1908 : k < 1958
  · exact allFrom_spec e1908 k (by omega) (by omega)
  by_cases h1958 : k < 2008
  · exact allFrom_spec e1958 k (by omega) (by omega)
  by_cases h2008 : k < 2058
  · exact allFrom_spec e2008 k (by omega) (by omega)
  by_cases h2058 : k < 2108
  · exact allFrom_spec e2058 k (by omega) (by omega)
  by_cases h2108 : k < 2158
  · exact allFrom_spec e2108 k (by omega) (by omega)
  by_cases h2158 : k < 2208
  · exact allFrom_spec e2158 k (by omega) (by omega)
  by_cases h2208 : k < 2258
  · exact allFrom_spec e2208 k (by omega) (by omega)
  by_cases h2258 : k < 2308
  · exact allFrom_spec e2258 k (by omega) (by omega)
  by_cases h2308 : k < 2358
  · exact allFrom_spec e2308 k (by omega) (by omega)
  by_cases h2358 : k < 2408
  · exact allFrom_spec e2358 k (by omega) (by omega)
  by_cases h2408 : k < 2458
  · exact allFrom_spec e2408 k (by omega) (by omega)
  by_cases h2458 : k < 2508
  · exact allFrom_spec e2458 k (by omega) (by omega)
  by_cases h2508 : k < 2558
  · exact allFrom_spec e2508 k (by omega) (by omega)
  by_cases h2558 : k < 2608
  · exact allFrom_spec e2558 k (by omega) (by omega)
  by_cases h2608 : k < 2658
  · exact allFrom_spec e2608 k (by omega) (by omega)
  by_cases h2658 : k < 2708
  · exact allFrom_spec e2658 k (by omega) (by omega)
  by_cases h2708 : k < 2758
  · exact allFrom_spec e2708 k (by omega) (by omega)
  by_cases h2758 : k < 2808
  · exact allFrom_spec e2758 k (by omega) (by omega)
  by_cases h2808 : k < 2858
  · exact allFrom_spec e2808 k (by omega) (by omega)
  by_cases h2858 : k < 2908
  · exact allFrom_spec e2858 k (by omega) (by omega)
  by_cases h2908 : k < 2958
  · exact allFrom_spec e2908 k (by omega) (by omega)
  by_cases h2958 : k < 3008
  · exact allFrom_spec e2958 k (by omega) (by omega)
  by_cases h3008 : k < 3058
  · exact allFrom_spec e3008 k (by omega) (by omega)
  by_cases h3058 : k < 3108
  · exact allFrom_spec e3058 k (by omega) (by omega)
  by_cases h3108 : k < 3158
  · exact allFrom_spec e3108 k (by omega) (by omega)
  by_cases h3158 : k < 3208
  · exact allFrom_spec e3158 k (by omega) (by omega)
  by_cases h3208 : k < 3258
  · exact allFrom_spec e3208 k (by omega) (by omega)
  by_cases h3258 : k < 3308
  · exact allFrom_spec e3258 k (by omega) (by omega)
  by_cases h3308 : k < 3358
  · exact allFrom_spec e3308 k (by omega) (by omega)
  by_cases h3358 : k < 3408
  · exact allFrom_spec e3358 k (by omega) (by omega)
  by_cases h3408 : k < 3458
  · exact allFrom_spec e3408 k (by omega) (by omega)
  by_cases h3458 : k < 3508
  · exact allFrom_spec e3458 k (by omega) (by omega)
  by_cases h3508 : k < 3558
  · exact allFrom_spec e3508 k (by omega) (by omega)
  by_cases h3558 : k < 3608
  · exact allFrom_spec e3558 k (by omega) (by omega)
  by_cases h3608 : k < 3658
  · exact allFrom_spec e3608 k (by omega) (by omega)
  by_cases h3658 : k < 3708
  · exact allFrom_spec e3658 k (by omega) (by omega)
  by_cases h3708 : k < 3758
  · exact allFrom_spec e3708 k (by omega) (by omega)
  by_cases h3758 : k < 3808
  · exact allFrom_spec e3758 k (by omega) (by omega)
  by_cases h3808 : k < 3858
  · exact allFrom_spec e3808 k (by omega) (by omega)
  by_cases h3858 : k < 3908
  · exact allFrom_spec e3858 k (by omega) (by omega)
  by_cases h3908 : k < 3958
  · exact allFrom_spec e3908 k (by omega) (by omega)
  by_cases h3958 : k < 4008
  · exact allFrom_spec e3958 k (by omega) (by omega)
  by_cases h4008 : k < 4058
  · exact allFrom_spec e4008 k (by omega) (by omega)
  by_cases h4058 : k < 4097
  · exact allFrom_spec e4058 k (by omega) (by omega)
  omega
theorem eAll : ∀ n : Int, runN n = true
  | .negSucc m => eNeg m
  | .ofNat k => by
    by_cases h0 : k < 8
    · exact allFrom_spec e0 k (by omega) (by omega)
    · by_cases h1 : k < 4097
      · exact eMid k (by omega) h1
      · have := eBig (k - 4097)
        rw [show k - 4097 + 4097 = k by omega] at this
        exact this
theorem whole (n : Int) (w : World) (h : Tryz.prog.globals.size ≤ w.heap.size) : Calls Tryz.prog 3 #[.int .i64 n] w fun e w' => e = .returned (.bool true) ∧ Go.RowKit.Below w.heap.size w w' :=
  calls_true (args := [.int .i64 n]) (us := [.int .i64 n]) hft hmix (show BigAll Tryz.prog ft bigN from bigNAll) (show ft.get 3 = some d3 by kernel_rfl) (fun _ => ⟨_, _, rfl, rfl, rfl⟩) (by rw [← hG]; exact eAll n) h
end Go.Proofs.YtgpdolhclinjdaaGreatDoor
