/- The handlers hold. No condition. -/
import Derived.Test.YtnkneinchiknmaaGreatDoorDh
set_option linter.unusedVariables false
set_option linter.unusedSimpArgs false
set_option linter.unusedSectionVars false
namespace Go.Proofs.YtnkneinchiknmaaGreatDoor
open Go Go.Md
set_option maxRecDepth 1000000
set_option maxHeartbeats 0
theorem tabRun : (match leavesF ft .nil 40000 (entry 119 d119 [] .nil 4) with | some l => allV (.agg tabL) l | none => false) = true := by kernel_rfl
theorem tabEnds : Go.Md.Ends ft .nil (fun x _ _ => x = .agg tabL) (entry 119 d119 [] .nil 4) := by
  have h := tabRun
  rw [leavesF_eq] at h
  cases hl : leavesOf ft .nil 40000 (entry 119 d119 [] .nil 4) with
  | none => rw [hl] at h; cases h
  | some l =>
    rw [hl] at h
    exact (leaves_ends _ _ _ hl).mono fun v h' nx hm => allV_spec h _ hm
def restOf (c : DC) : DC := match c with | .seq _ (.seq _ (.block _ (.loop (.block _ (.seq _ (.seq _ r)))))) => r | _ => .bad
theorem okCrc : HOk Tryz.prog ft 97 hCrc := hCrc_ok hft hmix (tab := 119) (show ft.get 97 = some (dExtend 119) by kernel_rfl) (show ft.get 119 = some d119 by kernel_rfl) (by rw [← hG]; exact tabEnds)
theorem okUsed : HOk Tryz.prog ft 86 hUsed := hUsed_ok hft hmix (sec := 49) (by kernel_rfl) (by kernel_rfl)
theorem okSettle : HOk Tryz.prog ft 35 (hSettle 36 48) := hSettle_ok hft hmix (sec := 49) (by kernel_rfl) (by kernel_rfl) (by kernel_rfl) (by kernel_rfl)
theorem okNames : HOk Tryz.prog ft 16 hNames := hNames_ok hft hmix (srt := 33) (len := 55) (l32 := 81) (l64 := 82) (pdq := 54) (ins := 72) (less := 78) (nan := 106) (dp := d54) (rest := restOf d54.body) (by kernel_rfl) (by kernel_rfl) (by kernel_rfl) (by kernel_rfl) (by kernel_rfl) (by kernel_rfl) (by kernel_rfl) (by kernel_rfl) (by kernel_rfl) (by kernel_rfl)
theorem okName : HOk Tryz.prog ft 32 (hIso ft 4 3000 32) := hIso_ok hft hmix hG
theorem okRight : HOk Tryz.prog ft 37 (hIso ft 4 3000 37) := hIso_ok hft hmix hG
noncomputable def big : Big := (((((T.nil.set 97 hCrc).set 86 hUsed).set 35 (hSettle 36 48)).set 16 hNames).set 32 (hIso ft 4 3000 32)).set 37 (hIso ft 4 3000 37)
theorem bigAll : BigAll Tryz.prog ft big := bigAll_set (bigAll_set (bigAll_set (bigAll_set (bigAll_set (bigAll_set bigAll_nil hft (df := d97) (by kernel_rfl) okCrc) hft (df := d86) (by kernel_rfl) okUsed) hft (df := d35) (by kernel_rfl) okSettle) hft (df := d16) (by kernel_rfl) okNames) hft (df := d32) (by kernel_rfl) okName) hft (df := d37) (by kernel_rfl) okRight
end Go.Proofs.YtnkneinchiknmaaGreatDoor
