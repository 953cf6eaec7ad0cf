/- YtnkneinchiknmaaGreatDoor: the law's row and its card, proved. -/
import Derived.Test.YtnkneinchiknmaaGreatDoorDo
import Derived.Test.YtnkneinchiknmaaGreatDoorM19
import Derived.Test.YtnkneinchiknmaaGreatDoorTie
import Derived.Test.YtnkneinchiknmaaGreatDoorCards
set_option linter.unusedVariables false
set_option linter.unusedSimpArgs false
set_option linter.unusedSectionVars false
namespace Go.Proofs.YtnkneinchiknmaaGreatDoor
open Go Go.Md Go.ChangeShapes Go.WideShapes Go.RowKit
set_option maxRecDepth 1000000
set_option maxHeartbeats 0
theorem own : ownKnob Tryz.prog.godebug = none := by kernel_rfl
theorem doorMet (os : Os) (args : Array Value) : laidMetH Tryz.prog Rows.scrubNilRow.laid ((World.doorLaid Tryz.prog 2000 os).forCall (fun _ _ => 0) ⟨#[], args, []⟩).memory :=
  laidMetH_of_parts3 (fuel := 8) (laidMet_of_run' 8 (by kernel_rfl) (by kernel_rfl)) (by kernel_rfl) (by kernel_rfl)
theorem whole : ∀ w : World, Tryz.prog.globals.size ≤ w.heap.size → Calls Tryz.prog 3 #[] w fun e w' => e = .returned (.bool true) ∧ Go.RowKit.Below w.heap.size w w' :=
  fun w h => calls_of_memo (x := true) (hout := m0.hout) (nout := m0.nout) (ft := ft) (show MemoOk Tryz.prog ft 3 ⟨[], .nil, Tryz.prog.globals.size, .bool true, m0.hout, m0.nout⟩ by rw [← hG]; exact ok0) h
theorem lifted (os : Os) (started : os.Started) (H : Type) (enc : TypeId × Value → H) :
    ReturnsInHanded {} Tryz.checked os 3 .any (fun w args => (Rows.scrubNilSpec.pre enc Tryz.prog Tryz.f3 [] false w args ∧ laidMetH Tryz.prog Rows.scrubNilRow.laid w) ∧ sizedMet enc Tryz.prog Tryz.f3 (OpenSpec.ofChange Rows.scrubNilSpec) false w args)
      (Rows.scrubNilSpec.post enc Tryz.prog Tryz.f3 false true false false) :=
  lifted_true (C := Tryz.checked) (X := fun w _ => laidMetH Tryz.prog Rows.scrubNilRow.laid w) own started (by kernel_rfl) Tryz.func3
    (ChangeSpec.witness_shaped (enc := enc) (C := Tryz.checked) (os := os) (X := fun w _ => laidMetH Tryz.prog Rows.scrubNilRow.laid w) false (World.doorLaid Tryz.prog 2000 os) #[] 8 rfl (World.shaped_of_RefB (by kernel_rfl) (by kernel_rfl)) (by kernel_rfl) (by kernel_rfl) (by kernel_rfl) (doorMet os _))
    (by kernel_rfl) (t := 4) (by kernel_rfl) (by kernel_rfl) rfl rfl (by decide +kernel) whole
theorem jLaidOut : laidOutB Tryz.prog = true := by kernel_rfl
theorem jMapsRowed : mapsRowed Tryz.prog = true := by kernel_rfl
theorem jStops : (Tryz.prog.stops == []) = true := by kernel_rfl
theorem jStopKnobs : (Tryz.prog.stopKnobs == []) = true := by kernel_rfl
theorem jInPlace : (Rows.scrubNilRow.inPlace == Tryz.prog.inPlace 3) = true := by kernel_rfl
theorem jUnfollowed : (Rows.scrubNilRow.unfollowed == Tryz.prog.unfollowed 3) = true := by kernel_rfl
theorem jRecurses : (Rows.scrubNilRow.recurses == Tryz.prog.recurses 3) = true := by kernel_rfl
theorem jNamed : (Rows.scrubNilRow.named == Tryz.prog.varsNamed 3) = true := by kernel_rfl
theorem jPlainKeys : (Rows.scrubNilRow.plainKeys == Tryz.prog.plainKeys) = true := by kernel_rfl
theorem jStopsHeard : Tryz.prog.stopsHeard = true := by kernel_rfl
theorem jMayEnter : Tryz.prog.mayEnter = true := by kernel_rfl
theorem jLifted : (Rows.scrubNilRow.lifted == Tryz.prog.liftsFinal) = true := by kernel_rfl
theorem jMake : (Tryz.prog.make == some Rows.scrubNilRow.make) = true := by kernel_rfl
theorem jClosed : joinedFacts Tryz.prog 3 Tryz.f3 Rows.scrubNilSpec Rows.scrubNilRow = true := by
  unfold joinedFacts
  repeat' with_reducible refine and_both ?_ ?_
  all_goals first | with_reducible exact jLaidOut | with_reducible exact jMapsRowed | with_reducible exact jStops | with_reducible exact jStopKnobs | with_reducible exact jInPlace | with_reducible exact jUnfollowed | with_reducible exact jRecurses | with_reducible exact jNamed | with_reducible exact jPlainKeys | with_reducible exact jStopsHeard | with_reducible exact jMayEnter | with_reducible exact jLifted | with_reducible exact jMake | kernel_rfl
theorem jInst : Tryz.f3.isInstance Tryz.prog Rows.scrubNilRow.origin Rows.scrubNilRow.targs := of_decide_eq_true (by kernel_rfl)
theorem jWrap : Tryz.f3.isWrapper Tryz.prog Rows.scrubNilRow.wrapper Rows.scrubNilRow.mainSum := by unfold Func.isWrapper; rw [if_neg (of_decide_eq_false (by kernel_rfl))]; exact ⟨rfl, rfl⟩
theorem jFunc : Tryz.prog.funcNamed Rows.scrubNilRow.func = some 3 := by kernel_rfl
theorem scrubNil_holds : Rows.ScrubNilSaid :=
  OpenClaim.holds_of_wide (p := Tryz.pinned) 3 Tryz.f3 rfl rfl rfl rfl rfl rfl rfl ⟨rfl, rfl, rfl, rfl, rfl⟩ rfl rfl rfl rfl rfl jFunc Tryz.func3 jClosed jInst jWrap
    (fun os started H enc _ => lifted os started H enc)
theorem jWf : Rows.scrubNilRow.wfByText (OpenSpec.ofChange Rows.scrubNilSpec) = true := by kernel_rfl
theorem jMain : Tryz.prog.mainIs = some (true, "f4f3552215ec4bd2b5c863e07e8084f200d3b910102349fc812eab6d8666060e".toList) := by kernel_rfl
theorem jLooks : true = Tryz.prog.looks [] := by kernel_rfl
theorem jGoes : false = Rows.scrubNilRow.goesBy Tryz.prog := by kernel_rfl
theorem jParams : Tryz.f3.params = #[] := by kernel_rfl
theorem scrubNil_card : Rows.ScrubNilCardSaid :=
  Claim7.holds_tied_plain_at (p := Tryz.pinned) .later [] [.data, .data, .data, .handle] true (true, "f4f3552215ec4bd2b5c863e07e8084f200d3b910102349fc812eab6d8666060e") true
    scrubNil_holds (fun _ h => by cases h) jWf (fun _ h => by cases h) scrubNil_row_tie rfl ⟨rfl, rfl⟩ jMain rfl
    (fun f fn hf hfn => by
      have hf' : Tryz.prog.funcNamed Rows.scrubNilRow.func = some f := hf
      rw [jFunc] at hf'
      obtain rfl : 3 = f := Option.some.inj hf'
      have hfn' : Tryz.prog.funcs[(3 : Nat)]? = some fn := hfn
      rw [Tryz.func3] at hfn'
      obtain rfl : Tryz.f3 = fn := Option.some.inj hfn'
      exact ⟨jLooks, fun j t ht => by
        rw [jParams] at ht
        cases ht⟩)
    jGoes
#print axioms scrubNil_card
end Go.Proofs.YtnkneinchiknmaaGreatDoor
