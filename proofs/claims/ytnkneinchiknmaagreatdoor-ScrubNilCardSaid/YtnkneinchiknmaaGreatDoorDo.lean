/- What was run once holds of the model. No condition. -/
import Derived.Test.YtnkneinchiknmaaGreatDoorDk0
import Derived.Test.YtnkneinchiknmaaGreatDoorDk1
import Derived.Test.YtnkneinchiknmaaGreatDoorDk2
import Derived.Test.YtnkneinchiknmaaGreatDoorDk3
set_option linter.unusedVariables false
set_option linter.unusedSimpArgs false
set_option linter.unusedSectionVars false
namespace Go.Proofs.YtnkneinchiknmaaGreatDoor
open Go Go.Md
set_option maxRecDepth 1000000
set_option maxHeartbeats 0
theorem ok358 : MemoOk Tryz.prog ft 138 m358 := memo_okF hft hmix (show BigAll Tryz.prog ft b358 from bigAll) (show ft.get 138 = some d138 by kernel_rfl) k358
theorem ok700 : MemoOk Tryz.prog ft 138 m700 := memo_okF hft hmix (show BigAll Tryz.prog ft b700 from bigAll) (show ft.get 138 = some d138 by kernel_rfl) k700
theorem ok356 : MemoOk Tryz.prog ft 114 m356 := memo_okF hft hmix (show BigAll Tryz.prog ft b356 from (bigAll_set bigAll hft (df := d138) (by kernel_rfl) (hMemo_ok (memoOk_cons ok358 (memoOk_cons ok700 memoOk_nil))))) (show ft.get 114 = some d114 by kernel_rfl) k356
theorem ok164 : MemoOk Tryz.prog ft 42 m164 := memo_okF hft hmix (show BigAll Tryz.prog ft b164 from (bigAll_set bigAll hft (df := d114) (by kernel_rfl) (hMemo_ok (memoOk_cons ok356 memoOk_nil)))) (show ft.get 42 = some d42 by kernel_rfl) k164
theorem ok1554 : MemoOk Tryz.prog ft 214 m1554 := memo_okF hft hmix (show BigAll Tryz.prog ft b1554 from bigAll) (show ft.get 214 = some d214 by kernel_rfl) k1554
theorem ok1553 : MemoOk Tryz.prog ft 178 m1553 := memo_okF hft hmix (show BigAll Tryz.prog ft b1553 from (bigAll_set bigAll hft (df := d214) (by kernel_rfl) (hMemo_ok (memoOk_cons ok1554 memoOk_nil)))) (show ft.get 178 = some d178 by kernel_rfl) k1553
theorem ok2262 : MemoOk Tryz.prog ft 181 m2262 := memo_okF hft hmix (show BigAll Tryz.prog ft b2262 from bigAll) (show ft.get 181 = some d181 by kernel_rfl) k2262
theorem ok2623 : MemoOk Tryz.prog ft 216 m2623 := memo_okF hft hmix (show BigAll Tryz.prog ft b2623 from bigAll) (show ft.get 216 = some d216 by kernel_rfl) k2623
theorem ok2622 : MemoOk Tryz.prog ft 214 m2622 := memo_okF hft hmix (show BigAll Tryz.prog ft b2622 from (bigAll_set bigAll hft (df := d216) (by kernel_rfl) (hMemo_ok (memoOk_cons ok2623 memoOk_nil)))) (show ft.get 214 = some d214 by kernel_rfl) k2622
theorem ok2621 : MemoOk Tryz.prog ft 178 m2621 := memo_okF hft hmix (show BigAll Tryz.prog ft b2621 from (bigAll_set bigAll hft (df := d214) (by kernel_rfl) (hMemo_ok (memoOk_cons ok2622 memoOk_nil)))) (show ft.get 178 = some d178 by kernel_rfl) k2621
theorem ok3743 : MemoOk Tryz.prog ft 181 m3743 := memo_okF hft hmix (show BigAll Tryz.prog ft b3743 from bigAll) (show ft.get 181 = some d181 by kernel_rfl) k3743
theorem ok4103 : MemoOk Tryz.prog ft 178 m4103 := memo_okF hft hmix (show BigAll Tryz.prog ft b4103 from bigAll) (show ft.get 178 = some d178 by kernel_rfl) k4103
theorem ok4808 : MemoOk Tryz.prog ft 183 m4808 := memo_okS [[(4266,4267)],[(4265,4267)],[(4264,4267)],[(4263,4267)],[(4262,4267)],[(4261,4267)]] hft hmix (show BigAll Tryz.prog ft b4808 from bigAll) (show ft.get 183 = some d183 by kernel_rfl) (by rw [← hG]; decide) k4808
theorem ok5388 : MemoOk Tryz.prog ft 214 m5388 := memo_okF hft hmix (show BigAll Tryz.prog ft b5388 from bigAll) (show ft.get 214 = some d214 by kernel_rfl) k5388
theorem ok5786 : MemoOk Tryz.prog ft 181 m5786 := memo_okF hft hmix (show BigAll Tryz.prog ft b5786 from bigAll) (show ft.get 181 = some d181 by kernel_rfl) k5786
theorem ok5035 : MemoOk Tryz.prog ft 186 m5035 := memo_okF hft hmix (show BigAll Tryz.prog ft b5035 from (bigAll_set (bigAll_set bigAll hft (df := d214) (by kernel_rfl) (hMemo_ok (memoOk_cons ok5388 memoOk_nil))) hft (df := d181) (by kernel_rfl) (hMemo_ok (memoOk_cons ok5786 memoOk_nil)))) (show ft.get 186 = some d186 by kernel_rfl) k5035
theorem ok6372 : MemoOk Tryz.prog ft 214 m6372 := memo_okF hft hmix (show BigAll Tryz.prog ft b6372 from bigAll) (show ft.get 214 = some d214 by kernel_rfl) k6372
theorem ok6649 : MemoOk Tryz.prog ft 181 m6649 := memo_okF hft hmix (show BigAll Tryz.prog ft b6649 from bigAll) (show ft.get 181 = some d181 by kernel_rfl) k6649
theorem ok6140 : MemoOk Tryz.prog ft 186 m6140 := memo_okF hft hmix (show BigAll Tryz.prog ft b6140 from (bigAll_set (bigAll_set bigAll hft (df := d214) (by kernel_rfl) (hMemo_ok (memoOk_cons ok6372 memoOk_nil))) hft (df := d181) (by kernel_rfl) (hMemo_ok (memoOk_cons ok6649 memoOk_nil)))) (show ft.get 186 = some d186 by kernel_rfl) k6140
theorem ok6882 : MemoOk Tryz.prog ft 114 m6882 := memo_okF hft hmix (show BigAll Tryz.prog ft b6882 from bigAll) (show ft.get 114 = some d114 by kernel_rfl) k6882
theorem ok4852 : MemoOk Tryz.prog ft 145 m4852 := memo_okF hft hmix (show BigAll Tryz.prog ft b4852 from (bigAll_set (bigAll_set bigAll hft (df := d186) (by kernel_rfl) (hMemo_ok (memoOk_cons ok5035 (memoOk_cons ok6140 memoOk_nil)))) hft (df := d114) (by kernel_rfl) (hMemo_ok (memoOk_cons ok6882 memoOk_nil)))) (show ft.get 145 = some d145 by kernel_rfl) k4852
theorem ok1355 : MemoOk Tryz.prog ft 89 m1355 := memo_okF hft hmix (show BigAll Tryz.prog ft b1355 from (bigAll_set (bigAll_set (bigAll_set (bigAll_set bigAll hft (df := d178) (by kernel_rfl) (hMemo_ok (memoOk_cons ok1553 (memoOk_cons ok2621 (memoOk_cons ok4103 memoOk_nil))))) hft (df := d181) (by kernel_rfl) (hMemo_ok (memoOk_cons ok2262 (memoOk_cons ok3743 memoOk_nil)))) hft (df := d183) (by kernel_rfl) (hMemo_ok (memoOk_cons ok4808 memoOk_nil))) hft (df := d145) (by kernel_rfl) (hMemo_ok (memoOk_cons ok4852 memoOk_nil)))) (show ft.get 89 = some d89 by kernel_rfl) k1355
theorem ok7890 : MemoOk Tryz.prog ft 183 m7890 := memo_okF hft hmix (show BigAll Tryz.prog ft b7890 from bigAll) (show ft.get 183 = some d183 by kernel_rfl) k7890
theorem ok8092 : MemoOk Tryz.prog ft 114 m8092 := memo_okF hft hmix (show BigAll Tryz.prog ft b8092 from bigAll) (show ft.get 114 = some d114 by kernel_rfl) k8092
theorem ok7579 : MemoOk Tryz.prog ft 89 m7579 := memo_okF hft hmix (show BigAll Tryz.prog ft b7579 from (bigAll_set (bigAll_set bigAll hft (df := d183) (by kernel_rfl) (hMemo_ok (memoOk_cons ok7890 memoOk_nil))) hft (df := d114) (by kernel_rfl) (hMemo_ok (memoOk_cons ok8092 memoOk_nil)))) (show ft.get 89 = some d89 by kernel_rfl) k7579
theorem ok7573 : MemoOk Tryz.prog ft 42 m7573 := memo_okF hft hmix (show BigAll Tryz.prog ft b7573 from (bigAll_set bigAll hft (df := d89) (by kernel_rfl) (hMemo_ok (memoOk_cons ok7579 memoOk_nil)))) (show ft.get 42 = some d42 by kernel_rfl) k7573
theorem ok8969 : MemoOk Tryz.prog ft 249 m8969 := memo_okF hft hmix (show BigAll Tryz.prog ft b8969 from bigAll) (show ft.get 249 = some d249 by kernel_rfl) k8969
theorem ok9021 : MemoOk Tryz.prog ft 249 m9021 := memo_okF hft hmix (show BigAll Tryz.prog ft b9021 from bigAll) (show ft.get 249 = some d249 by kernel_rfl) k9021
theorem ok8933 : MemoOk Tryz.prog ft 152 m8933 := memo_okF hft hmix (show BigAll Tryz.prog ft b8933 from (bigAll_set bigAll hft (df := d249) (by kernel_rfl) (hMemo_ok (memoOk_cons ok8969 (memoOk_cons ok9021 memoOk_nil))))) (show ft.get 152 = some d152 by kernel_rfl) k8933
theorem ok9130 : MemoOk Tryz.prog ft 249 m9130 := memo_okF hft hmix (show BigAll Tryz.prog ft b9130 from bigAll) (show ft.get 249 = some d249 by kernel_rfl) k9130
theorem ok9241 : MemoOk Tryz.prog ft 249 m9241 := memo_okF hft hmix (show BigAll Tryz.prog ft b9241 from bigAll) (show ft.get 249 = some d249 by kernel_rfl) k9241
theorem ok9038 : MemoOk Tryz.prog ft 152 m9038 := memo_okF hft hmix (show BigAll Tryz.prog ft b9038 from (bigAll_set bigAll hft (df := d249) (by kernel_rfl) (hMemo_ok (memoOk_cons ok9130 (memoOk_cons ok9241 memoOk_nil))))) (show ft.get 152 = some d152 by kernel_rfl) k9038
theorem ok9364 : MemoOk Tryz.prog ft 249 m9364 := memo_okF hft hmix (show BigAll Tryz.prog ft b9364 from bigAll) (show ft.get 249 = some d249 by kernel_rfl) k9364
theorem ok9483 : MemoOk Tryz.prog ft 249 m9483 := memo_okF hft hmix (show BigAll Tryz.prog ft b9483 from bigAll) (show ft.get 249 = some d249 by kernel_rfl) k9483
theorem ok9269 : MemoOk Tryz.prog ft 152 m9269 := memo_okF hft hmix (show BigAll Tryz.prog ft b9269 from (bigAll_set bigAll hft (df := d249) (by kernel_rfl) (hMemo_ok (memoOk_cons ok9364 (memoOk_cons ok9483 memoOk_nil))))) (show ft.get 152 = some d152 by kernel_rfl) k9269
theorem ok9500 : MemoOk Tryz.prog ft 153 m9500 := memo_okF hft hmix (show BigAll Tryz.prog ft b9500 from bigAll) (show ft.get 153 = some d153 by kernel_rfl) k9500
theorem ok9788 : MemoOk Tryz.prog ft 153 m9788 := memo_okF hft hmix (show BigAll Tryz.prog ft b9788 from bigAll) (show ft.get 153 = some d153 by kernel_rfl) k9788
theorem ok8715 : MemoOk Tryz.prog ft 42 m8715 := memo_okF hft hmix (show BigAll Tryz.prog ft b8715 from (bigAll_set (bigAll_set bigAll hft (df := d152) (by kernel_rfl) (hMemo_ok (memoOk_cons ok8933 (memoOk_cons ok9038 (memoOk_cons ok9269 memoOk_nil))))) hft (df := d153) (by kernel_rfl) (hMemo_ok (memoOk_cons ok9500 (memoOk_cons ok9788 memoOk_nil))))) (show ft.get 42 = some d42 by kernel_rfl) k8715
theorem ok10213 : MemoOk Tryz.prog ft 42 m10213 := memo_okF hft hmix (show BigAll Tryz.prog ft b10213 from bigAll) (show ft.get 42 = some d42 by kernel_rfl) k10213
theorem ok10625 : MemoOk Tryz.prog ft 46 m10625 := memo_okF hft hmix (show BigAll Tryz.prog ft b10625 from bigAll) (show ft.get 46 = some d46 by kernel_rfl) k10625
theorem ok10362 : MemoOk Tryz.prog ft 10 m10362 := memo_okF hft hmix (show BigAll Tryz.prog ft b10362 from (bigAll_set bigAll hft (df := d46) (by kernel_rfl) (hMemo_ok (memoOk_cons ok10625 memoOk_nil)))) (show ft.get 10 = some d10 by kernel_rfl) k10362
theorem ok10916 : MemoOk Tryz.prog ft 28 m10916 := memo_okF hft hmix (show BigAll Tryz.prog ft b10916 from bigAll) (show ft.get 28 = some d28 by kernel_rfl) k10916
theorem ok11454 : MemoOk Tryz.prog ft 28 m11454 := memo_okF hft hmix (show BigAll Tryz.prog ft b11454 from bigAll) (show ft.get 28 = some d28 by kernel_rfl) k11454
theorem ok11746 : MemoOk Tryz.prog ft 28 m11746 := memo_okF hft hmix (show BigAll Tryz.prog ft b11746 from bigAll) (show ft.get 28 = some d28 by kernel_rfl) k11746
theorem ok10361 : MemoOk Tryz.prog ft 4 m10361 := memo_okF hft hmix (show BigAll Tryz.prog ft b10361 from (bigAll_set (bigAll_set bigAll hft (df := d10) (by kernel_rfl) (hMemo_ok (memoOk_cons ok10362 memoOk_nil))) hft (df := d28) (by kernel_rfl) (hMemo_ok (memoOk_cons ok10916 (memoOk_cons ok11454 (memoOk_cons ok11746 memoOk_nil)))))) (show ft.get 4 = some d4 by kernel_rfl) k10361
theorem ok12275 : MemoOk Tryz.prog ft 46 m12275 := memo_okF hft hmix (show BigAll Tryz.prog ft b12275 from bigAll) (show ft.get 46 = some d46 by kernel_rfl) k12275
theorem ok12012 : MemoOk Tryz.prog ft 10 m12012 := memo_okF hft hmix (show BigAll Tryz.prog ft b12012 from (bigAll_set bigAll hft (df := d46) (by kernel_rfl) (hMemo_ok (memoOk_cons ok12275 memoOk_nil)))) (show ft.get 10 = some d10 by kernel_rfl) k12012
theorem ok12566 : MemoOk Tryz.prog ft 28 m12566 := memo_okF hft hmix (show BigAll Tryz.prog ft b12566 from bigAll) (show ft.get 28 = some d28 by kernel_rfl) k12566
theorem ok13150 : MemoOk Tryz.prog ft 28 m13150 := memo_okF hft hmix (show BigAll Tryz.prog ft b13150 from bigAll) (show ft.get 28 = some d28 by kernel_rfl) k13150
theorem ok12011 : MemoOk Tryz.prog ft 4 m12011 := memo_okF hft hmix (show BigAll Tryz.prog ft b12011 from (bigAll_set (bigAll_set bigAll hft (df := d10) (by kernel_rfl) (hMemo_ok (memoOk_cons ok12012 memoOk_nil))) hft (df := d28) (by kernel_rfl) (hMemo_ok (memoOk_cons ok12566 (memoOk_cons ok13150 memoOk_nil))))) (show ft.get 4 = some d4 by kernel_rfl) k12011
theorem ok13676 : MemoOk Tryz.prog ft 46 m13676 := memo_okF hft hmix (show BigAll Tryz.prog ft b13676 from bigAll) (show ft.get 46 = some d46 by kernel_rfl) k13676
theorem ok13413 : MemoOk Tryz.prog ft 10 m13413 := memo_okF hft hmix (show BigAll Tryz.prog ft b13413 from (bigAll_set bigAll hft (df := d46) (by kernel_rfl) (hMemo_ok (memoOk_cons ok13676 memoOk_nil)))) (show ft.get 10 = some d10 by kernel_rfl) k13413
theorem ok0 : MemoOk Tryz.prog ft 3 m0 := memo_okF hft hmix (show BigAll Tryz.prog ft b0 from (bigAll_set (bigAll_set (bigAll_set (bigAll_set bigAll hft (df := d42) (by kernel_rfl) (hMemo_ok (memoOk_cons ok164 (memoOk_cons ok7573 (memoOk_cons ok8715 (memoOk_cons ok10213 memoOk_nil)))))) hft (df := d89) (by kernel_rfl) (hMemo_ok (memoOk_cons ok1355 memoOk_nil))) hft (df := d4) (by kernel_rfl) (hMemo_ok (memoOk_cons ok10361 (memoOk_cons ok12011 memoOk_nil)))) hft (df := d10) (by kernel_rfl) (hMemo_ok (memoOk_cons ok13413 memoOk_nil)))) (show ft.get 3 = some d3 by kernel_rfl) k0
end Go.Proofs.YtnkneinchiknmaaGreatDoor
