/- The handlers hold. No condition. -/
import Derived.Test.YtgpdolhclinjdaaGreatDoorDh
set_option linter.unusedVariables false
set_option linter.unusedSimpArgs false
set_option linter.unusedSectionVars false
namespace Go.Proofs.YtgpdolhclinjdaaGreatDoor
open Go Go.Md
set_option maxRecDepth 1000000
set_option maxHeartbeats 0
theorem tabRun : (match leavesF ft .nil 40000 (entry 133 d133 [] .nil 4) with | some l => allV (.agg tabL) l | none => false) = true := by kernel_rfl
theorem tabEnds : Go.Md.Ends ft .nil (fun x _ _ => x = .agg tabL) (entry 133 d133 [] .nil 4) := by
  have h := tabRun
  rw [leavesF_eq] at h
  cases hl : leavesOf ft .nil 40000 (entry 133 d133 [] .nil 4) with
  | none => rw [hl] at h; cases h
  | some l =>
    rw [hl] at h
    exact (leaves_ends _ _ _ hl).mono fun v h' nx hm => allV_spec h _ hm
def restOf (c : DC) : DC := match c with | .seq _ (.seq _ (.block _ (.loop (.block _ (.seq _ (.seq _ r)))))) => r | _ => .bad
theorem okCrc : HOk Tryz.prog ft 96 hCrc := hCrc_ok hft hmix (tab := 133) (show ft.get 96 = some (dExtend 133) by kernel_rfl) (show ft.get 133 = some d133 by kernel_rfl) (by rw [← hG]; exact tabEnds)
theorem okUsed : HOk Tryz.prog ft 85 hUsed := hUsed_ok hft hmix (sec := 59) (by kernel_rfl) (by kernel_rfl)
theorem okSettle : HOk Tryz.prog ft 37 (hSettle 38 58) := hSettle_ok hft hmix (sec := 59) (by kernel_rfl) (by kernel_rfl) (by kernel_rfl) (by kernel_rfl)
theorem okNames : HOk Tryz.prog ft 11 hNames := hNames_ok hft hmix (srt := 23) (len := 47) (l32 := 80) (l64 := 81) (pdq := 46) (ins := 71) (less := 77) (nan := 121) (dp := d46) (rest := restOf d46.body) (by kernel_rfl) (by kernel_rfl) (by kernel_rfl) (by kernel_rfl) (by kernel_rfl) (by kernel_rfl) (by kernel_rfl) (by kernel_rfl) (by kernel_rfl) (by kernel_rfl)
theorem okName : HOk Tryz.prog ft 60 (hIso ft 4 3000 60) := hIso_ok hft hmix hG
theorem okRight : HOk Tryz.prog ft 62 (hIso ft 4 3000 62) := hIso_ok hft hmix hG
noncomputable def big : Big := (((((T.nil.set 96 hCrc).set 85 hUsed).set 37 (hSettle 38 58)).set 11 hNames).set 60 (hIso ft 4 3000 60)).set 62 (hIso ft 4 3000 62)
theorem bigAll : BigAll Tryz.prog ft big := bigAll_set (bigAll_set (bigAll_set (bigAll_set (bigAll_set (bigAll_set bigAll_nil hft (df := d96) (by kernel_rfl) okCrc) hft (df := d85) (by kernel_rfl) okUsed) hft (df := d37) (by kernel_rfl) okSettle) hft (df := d11) (by kernel_rfl) okNames) hft (df := d60) (by kernel_rfl) okName) hft (df := d62) (by kernel_rfl) okRight
end Go.Proofs.YtgpdolhclinjdaaGreatDoor
