/- What the row asks of the program, by the kernel. No condition. -/
import Derived.Test.YtgpdolhclinjdaaGreatDoorM17
import Derived.Test.YtgpdolhclinjdaaGreatDoorTie
import Derived.Test.YtgpdolhclinjdaaGreatDoorCards
set_option linter.unusedVariables false
set_option linter.unusedSimpArgs false
set_option linter.unusedSectionVars false
namespace Go.Proofs.YtgpdolhclinjdaaGreatDoor
open Go Go.Md Go.ChangeShapes Go.WideShapes Go.RowKit
set_option maxRecDepth 1000000
set_option maxHeartbeats 0
theorem own : ownKnob Tryz.prog.godebug = none := by kernel_rfl
theorem doorMet (os : Os) (args : Array Value) : laidMetH Tryz.prog Rows.buildNilRow.laid ((World.doorLaid Tryz.prog 2000 os).forCall (fun _ _ => 0) ⟨#[], args, []⟩).memory :=
  laidMetH_of_parts3 (fuel := 8) (laidMet_of_run' 8 (by kernel_rfl) (by kernel_rfl)) (by kernel_rfl) (by kernel_rfl)
theorem jLaidOut : laidOutB Tryz.prog = true := by kernel_rfl
theorem jMapsRowed : mapsRowed Tryz.prog = true := by kernel_rfl
theorem jStops : (Tryz.prog.stops == []) = true := by kernel_rfl
theorem jStopKnobs : (Tryz.prog.stopKnobs == []) = true := by kernel_rfl
theorem jInPlace : (Rows.buildNilRow.inPlace == Tryz.prog.inPlace 3) = true := by kernel_rfl
theorem jUnfollowed : (Rows.buildNilRow.unfollowed == Tryz.prog.unfollowed 3) = true := by kernel_rfl
theorem jRecurses : (Rows.buildNilRow.recurses == Tryz.prog.recurses 3) = true := by kernel_rfl
theorem jNamed : (Rows.buildNilRow.named == Tryz.prog.varsNamed 3) = true := by kernel_rfl
theorem jPlainKeys : (Rows.buildNilRow.plainKeys == Tryz.prog.plainKeys) = true := by kernel_rfl
theorem jStopsHeard : Tryz.prog.stopsHeard = true := by kernel_rfl
theorem jMayEnter : Tryz.prog.mayEnter = true := by kernel_rfl
theorem jLifted : (Rows.buildNilRow.lifted == Tryz.prog.liftsFinal) = true := by kernel_rfl
theorem jMake : (Tryz.prog.make == some Rows.buildNilRow.make) = true := by kernel_rfl
theorem jClosed : joinedFacts Tryz.prog 3 Tryz.f3 Rows.buildNilSpec Rows.buildNilRow = true := by
  unfold joinedFacts
  repeat' with_reducible refine and_both ?_ ?_
  all_goals first | with_reducible exact jLaidOut | with_reducible exact jMapsRowed | with_reducible exact jStops | with_reducible exact jStopKnobs | with_reducible exact jInPlace | with_reducible exact jUnfollowed | with_reducible exact jRecurses | with_reducible exact jNamed | with_reducible exact jPlainKeys | with_reducible exact jStopsHeard | with_reducible exact jMayEnter | with_reducible exact jLifted | with_reducible exact jMake | kernel_rfl
theorem jInst : Tryz.f3.isInstance Tryz.prog Rows.buildNilRow.origin Rows.buildNilRow.targs := of_decide_eq_true (by kernel_rfl)
theorem jWrap : Tryz.f3.isWrapper Tryz.prog Rows.buildNilRow.wrapper Rows.buildNilRow.mainSum := by unfold Func.isWrapper; rw [if_neg (of_decide_eq_false (by kernel_rfl))]; exact ⟨rfl, rfl⟩
theorem jFunc : Tryz.prog.funcNamed Rows.buildNilRow.func = some 3 := by kernel_rfl
theorem jWf : Rows.buildNilRow.wfByText (OpenSpec.ofChange Rows.buildNilSpec) = true := by kernel_rfl
theorem jMain : Tryz.prog.mainIs = some (true, "5cf7d24c28c4ba97c318b31fa8d65e2605f30bf2d1b091e1253cfa446e3af173".toList) := by kernel_rfl
theorem jLooks : true = Tryz.prog.looks [] := by kernel_rfl
theorem jGoes : false = Rows.buildNilRow.goesBy Tryz.prog := by kernel_rfl
theorem jStand : Tryz.prog.wantsStandIn 3 = false := by kernel_rfl
theorem jParams : Tryz.f3.params = #[3] := by kernel_rfl
end Go.Proofs.YtgpdolhclinjdaaGreatDoor
