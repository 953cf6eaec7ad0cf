/- What was run once holds of the model. No condition. -/
import Derived.Test.YtgpdolhclinjdaaGreatDoorDk0
import Derived.Test.YtgpdolhclinjdaaGreatDoorDk1
import Derived.Test.YtgpdolhclinjdaaGreatDoorDk2
import Derived.Test.YtgpdolhclinjdaaGreatDoorDk3
set_option linter.unusedVariables false
set_option linter.unusedSimpArgs false
set_option linter.unusedSectionVars false
namespace Go.Proofs.YtgpdolhclinjdaaGreatDoor
open Go Go.Md
set_option maxRecDepth 1000000
set_option maxHeartbeats 0
theorem ok339 : MemoOk Tryz.prog ft 100 m339 := memo_okF hft hmix (show BigAll Tryz.prog ft b339 from bigAll) (show ft.get 100 = some d100 by kernel_rfl) k339
theorem ok681 : MemoOk Tryz.prog ft 100 m681 := memo_okF hft hmix (show BigAll Tryz.prog ft b681 from bigAll) (show ft.get 100 = some d100 by kernel_rfl) k681
theorem ok337 : MemoOk Tryz.prog ft 67 m337 := memo_okF hft hmix (show BigAll Tryz.prog ft b337 from (bigAll_set bigAll hft (df := d100) (by kernel_rfl) (hMemo_ok (memoOk_cons ok339 (memoOk_cons ok681 memoOk_nil))))) (show ft.get 67 = some d67 by kernel_rfl) k337
theorem ok145 : MemoOk Tryz.prog ft 5 m145 := memo_okF hft hmix (show BigAll Tryz.prog ft b145 from (bigAll_set bigAll hft (df := d67) (by kernel_rfl) (hMemo_ok (memoOk_cons ok337 memoOk_nil)))) (show ft.get 5 = some d5 by kernel_rfl) k145
theorem ok1535 : MemoOk Tryz.prog ft 187 m1535 := memo_okF hft hmix (show BigAll Tryz.prog ft b1535 from bigAll) (show ft.get 187 = some d187 by kernel_rfl) k1535
theorem ok1534 : MemoOk Tryz.prog ft 147 m1534 := memo_okF hft hmix (show BigAll Tryz.prog ft b1534 from (bigAll_set bigAll hft (df := d187) (by kernel_rfl) (hMemo_ok (memoOk_cons ok1535 memoOk_nil)))) (show ft.get 147 = some d147 by kernel_rfl) k1534
theorem ok2243 : MemoOk Tryz.prog ft 150 m2243 := memo_okF hft hmix (show BigAll Tryz.prog ft b2243 from bigAll) (show ft.get 150 = some d150 by kernel_rfl) k2243
theorem ok2604 : MemoOk Tryz.prog ft 189 m2604 := memo_okF hft hmix (show BigAll Tryz.prog ft b2604 from bigAll) (show ft.get 189 = some d189 by kernel_rfl) k2604
theorem ok2603 : MemoOk Tryz.prog ft 187 m2603 := memo_okF hft hmix (show BigAll Tryz.prog ft b2603 from (bigAll_set bigAll hft (df := d189) (by kernel_rfl) (hMemo_ok (memoOk_cons ok2604 memoOk_nil)))) (show ft.get 187 = some d187 by kernel_rfl) k2603
theorem ok2602 : MemoOk Tryz.prog ft 147 m2602 := memo_okF hft hmix (show BigAll Tryz.prog ft b2602 from (bigAll_set bigAll hft (df := d187) (by kernel_rfl) (hMemo_ok (memoOk_cons ok2603 memoOk_nil)))) (show ft.get 147 = some d147 by kernel_rfl) k2602
theorem ok3724 : MemoOk Tryz.prog ft 150 m3724 := memo_okF hft hmix (show BigAll Tryz.prog ft b3724 from bigAll) (show ft.get 150 = some d150 by kernel_rfl) k3724
theorem ok4084 : MemoOk Tryz.prog ft 147 m4084 := memo_okF hft hmix (show BigAll Tryz.prog ft b4084 from bigAll) (show ft.get 147 = some d147 by kernel_rfl) k4084
theorem ok4789 : MemoOk Tryz.prog ft 152 m4789 := memo_okS [[(4249,4250)],[(4248,4250)],[(4247,4250)],[(4246,4250)],[(4245,4250)]] hft hmix (show BigAll Tryz.prog ft b4789 from bigAll) (show ft.get 152 = some d152 by kernel_rfl) (by rw [← hG]; decide) k4789
theorem ok5369 : MemoOk Tryz.prog ft 187 m5369 := memo_okF hft hmix (show BigAll Tryz.prog ft b5369 from bigAll) (show ft.get 187 = some d187 by kernel_rfl) k5369
theorem ok5767 : MemoOk Tryz.prog ft 150 m5767 := memo_okF hft hmix (show BigAll Tryz.prog ft b5767 from bigAll) (show ft.get 150 = some d150 by kernel_rfl) k5767
theorem ok5016 : MemoOk Tryz.prog ft 155 m5016 := memo_okF hft hmix (show BigAll Tryz.prog ft b5016 from (bigAll_set (bigAll_set bigAll hft (df := d187) (by kernel_rfl) (hMemo_ok (memoOk_cons ok5369 memoOk_nil))) hft (df := d150) (by kernel_rfl) (hMemo_ok (memoOk_cons ok5767 memoOk_nil)))) (show ft.get 155 = some d155 by kernel_rfl) k5016
theorem ok6353 : MemoOk Tryz.prog ft 187 m6353 := memo_okF hft hmix (show BigAll Tryz.prog ft b6353 from bigAll) (show ft.get 187 = some d187 by kernel_rfl) k6353
theorem ok6630 : MemoOk Tryz.prog ft 150 m6630 := memo_okF hft hmix (show BigAll Tryz.prog ft b6630 from bigAll) (show ft.get 150 = some d150 by kernel_rfl) k6630
theorem ok6121 : MemoOk Tryz.prog ft 155 m6121 := memo_okF hft hmix (show BigAll Tryz.prog ft b6121 from (bigAll_set (bigAll_set bigAll hft (df := d187) (by kernel_rfl) (hMemo_ok (memoOk_cons ok6353 memoOk_nil))) hft (df := d150) (by kernel_rfl) (hMemo_ok (memoOk_cons ok6630 memoOk_nil)))) (show ft.get 155 = some d155 by kernel_rfl) k6121
theorem ok6863 : MemoOk Tryz.prog ft 67 m6863 := memo_okF hft hmix (show BigAll Tryz.prog ft b6863 from bigAll) (show ft.get 67 = some d67 by kernel_rfl) k6863
theorem ok4833 : MemoOk Tryz.prog ft 107 m4833 := memo_okF hft hmix (show BigAll Tryz.prog ft b4833 from (bigAll_set (bigAll_set bigAll hft (df := d155) (by kernel_rfl) (hMemo_ok (memoOk_cons ok5016 (memoOk_cons ok6121 memoOk_nil)))) hft (df := d67) (by kernel_rfl) (hMemo_ok (memoOk_cons ok6863 memoOk_nil)))) (show ft.get 107 = some d107 by kernel_rfl) k4833
theorem ok1336 : MemoOk Tryz.prog ft 41 m1336 := memo_okF hft hmix (show BigAll Tryz.prog ft b1336 from (bigAll_set (bigAll_set (bigAll_set (bigAll_set bigAll hft (df := d147) (by kernel_rfl) (hMemo_ok (memoOk_cons ok1534 (memoOk_cons ok2602 (memoOk_cons ok4084 memoOk_nil))))) hft (df := d150) (by kernel_rfl) (hMemo_ok (memoOk_cons ok2243 (memoOk_cons ok3724 memoOk_nil)))) hft (df := d152) (by kernel_rfl) (hMemo_ok (memoOk_cons ok4789 memoOk_nil))) hft (df := d107) (by kernel_rfl) (hMemo_ok (memoOk_cons ok4833 memoOk_nil)))) (show ft.get 41 = some d41 by kernel_rfl) k1336
theorem ok7871 : MemoOk Tryz.prog ft 152 m7871 := memo_okF hft hmix (show BigAll Tryz.prog ft b7871 from bigAll) (show ft.get 152 = some d152 by kernel_rfl) k7871
theorem ok8073 : MemoOk Tryz.prog ft 67 m8073 := memo_okF hft hmix (show BigAll Tryz.prog ft b8073 from bigAll) (show ft.get 67 = some d67 by kernel_rfl) k8073
theorem ok7560 : MemoOk Tryz.prog ft 41 m7560 := memo_okF hft hmix (show BigAll Tryz.prog ft b7560 from (bigAll_set (bigAll_set bigAll hft (df := d152) (by kernel_rfl) (hMemo_ok (memoOk_cons ok7871 memoOk_nil))) hft (df := d67) (by kernel_rfl) (hMemo_ok (memoOk_cons ok8073 memoOk_nil)))) (show ft.get 41 = some d41 by kernel_rfl) k7560
theorem ok8950 : MemoOk Tryz.prog ft 222 m8950 := memo_okF hft hmix (show BigAll Tryz.prog ft b8950 from bigAll) (show ft.get 222 = some d222 by kernel_rfl) k8950
theorem ok9002 : MemoOk Tryz.prog ft 222 m9002 := memo_okF hft hmix (show BigAll Tryz.prog ft b9002 from bigAll) (show ft.get 222 = some d222 by kernel_rfl) k9002
theorem ok8914 : MemoOk Tryz.prog ft 114 m8914 := memo_okF hft hmix (show BigAll Tryz.prog ft b8914 from (bigAll_set bigAll hft (df := d222) (by kernel_rfl) (hMemo_ok (memoOk_cons ok8950 (memoOk_cons ok9002 memoOk_nil))))) (show ft.get 114 = some d114 by kernel_rfl) k8914
theorem ok9111 : MemoOk Tryz.prog ft 222 m9111 := memo_okF hft hmix (show BigAll Tryz.prog ft b9111 from bigAll) (show ft.get 222 = some d222 by kernel_rfl) k9111
theorem ok9222 : MemoOk Tryz.prog ft 222 m9222 := memo_okF hft hmix (show BigAll Tryz.prog ft b9222 from bigAll) (show ft.get 222 = some d222 by kernel_rfl) k9222
theorem ok9019 : MemoOk Tryz.prog ft 114 m9019 := memo_okF hft hmix (show BigAll Tryz.prog ft b9019 from (bigAll_set bigAll hft (df := d222) (by kernel_rfl) (hMemo_ok (memoOk_cons ok9111 (memoOk_cons ok9222 memoOk_nil))))) (show ft.get 114 = some d114 by kernel_rfl) k9019
theorem ok9345 : MemoOk Tryz.prog ft 222 m9345 := memo_okF hft hmix (show BigAll Tryz.prog ft b9345 from bigAll) (show ft.get 222 = some d222 by kernel_rfl) k9345
theorem ok9464 : MemoOk Tryz.prog ft 222 m9464 := memo_okF hft hmix (show BigAll Tryz.prog ft b9464 from bigAll) (show ft.get 222 = some d222 by kernel_rfl) k9464
theorem ok9250 : MemoOk Tryz.prog ft 114 m9250 := memo_okF hft hmix (show BigAll Tryz.prog ft b9250 from (bigAll_set bigAll hft (df := d222) (by kernel_rfl) (hMemo_ok (memoOk_cons ok9345 (memoOk_cons ok9464 memoOk_nil))))) (show ft.get 114 = some d114 by kernel_rfl) k9250
theorem ok9481 : MemoOk Tryz.prog ft 115 m9481 := memo_okF hft hmix (show BigAll Tryz.prog ft b9481 from bigAll) (show ft.get 115 = some d115 by kernel_rfl) k9481
theorem ok9769 : MemoOk Tryz.prog ft 115 m9769 := memo_okF hft hmix (show BigAll Tryz.prog ft b9769 from bigAll) (show ft.get 115 = some d115 by kernel_rfl) k9769
theorem ok8696 : MemoOk Tryz.prog ft 5 m8696 := memo_okF hft hmix (show BigAll Tryz.prog ft b8696 from (bigAll_set (bigAll_set bigAll hft (df := d114) (by kernel_rfl) (hMemo_ok (memoOk_cons ok8914 (memoOk_cons ok9019 (memoOk_cons ok9250 memoOk_nil))))) hft (df := d115) (by kernel_rfl) (hMemo_ok (memoOk_cons ok9481 (memoOk_cons ok9769 memoOk_nil))))) (show ft.get 5 = some d5 by kernel_rfl) k8696
theorem ok10194 : MemoOk Tryz.prog ft 5 m10194 := memo_okF hft hmix (show BigAll Tryz.prog ft b10194 from bigAll) (show ft.get 5 = some d5 by kernel_rfl) k10194
theorem ok140 : MemoOk Tryz.prog ft 6 m140 := memo_okF hft hmix (show BigAll Tryz.prog ft b140 from (bigAll_set (bigAll_set bigAll hft (df := d5) (by kernel_rfl) (hMemo_ok (memoOk_cons ok145 (memoOk_cons ok8696 (memoOk_cons ok10194 memoOk_nil))))) hft (df := d41) (by kernel_rfl) (hMemo_ok (memoOk_cons ok1336 (memoOk_cons ok7560 memoOk_nil))))) (show ft.get 6 = some d6 by kernel_rfl) k140
theorem ok0 : MemoOk Tryz.prog ft 12 m0 := memo_okF hft hmix (show BigAll Tryz.prog ft b0 from (bigAll_set bigAll hft (df := d6) (by kernel_rfl) (hMemo_ok (memoOk_cons ok140 memoOk_nil)))) (show ft.get 12 = some d12 by kernel_rfl) k0
end Go.Proofs.YtgpdolhclinjdaaGreatDoor
