/- YtgpdolhclinjdaaGreatDoor: the law, its row and its card, proved. -/
import Derived.Test.YtgpdolhclinjdaaGreatDoorFj
import Derived.Test.YtgpdolhclinjdaaGreatDoorEo
import Derived.Test.YtgpdolhclinjdaaGreatDoorM18
import Derived.Test.YtgpdolhclinjdaaGreatDoorTie
import Derived.Test.YtgpdolhclinjdaaGreatDoorCards
set_option linter.unusedVariables false
set_option linter.unusedSimpArgs false
set_option linter.unusedSectionVars false
namespace Go.Proofs.YtgpdolhclinjdaaGreatDoor
open Go Go.Md Go.ChangeShapes Go.WideShapes Go.RowKit
set_option maxRecDepth 1000000
set_option maxHeartbeats 0
theorem lifted (os : Os) (started : os.Started) (H : Type) (enc : TypeId × Value → H) :
    ReturnsInHanded {} Tryz.checked os 3 .any (fun w args => (Rows.buildNilSpec.pre enc Tryz.prog Tryz.f3 [] false w args ∧ laidMetH Tryz.prog Rows.buildNilRow.laid w) ∧ sizedMet enc Tryz.prog Tryz.f3 (OpenSpec.ofChange Rows.buildNilSpec) false w args)
      (Rows.buildNilSpec.post enc Tryz.prog Tryz.f3 false true false false) :=
  lifted_true1 (C := Tryz.checked) (X := fun w _ => laidMetH Tryz.prog Rows.buildNilRow.laid w) own started (by kernel_rfl) Tryz.func3
    (ChangeSpec.witness_shaped (enc := enc) (C := Tryz.checked) (os := os) (X := fun w _ => laidMetH Tryz.prog Rows.buildNilRow.laid w) false (World.doorLaid Tryz.prog 2000 os) #[.int .i64 8] 8 rfl (World.shaped_of_RefB (by kernel_rfl) (by kernel_rfl)) (by kernel_rfl) (by kernel_rfl) (by kernel_rfl) (doorMet os _))
    (by kernel_rfl) (t := 4) (ti := 3) (by kernel_rfl) (by kernel_rfl) (by kernel_rfl) rfl (fun _ => rfl) (by decide +kernel) whole
theorem buildNil_holds : Rows.BuildNilSaid :=
  OpenClaim.holds_of_wide (p := Tryz.pinned) 3 Tryz.f3 rfl rfl rfl rfl rfl rfl rfl ⟨rfl, rfl, rfl, rfl, rfl⟩ rfl rfl rfl rfl rfl jFunc Tryz.func3 jClosed jInst jWrap
    (fun os started H enc _ => lifted os started H enc)
theorem buildNil_card : Rows.BuildNilCardSaid :=
  Claim7.holds_tied_plain_at (p := Tryz.pinned) .later [] [.data, .data, .data, .handle] true (true, "5cf7d24c28c4ba97c318b31fa8d65e2605f30bf2d1b091e1253cfa446e3af173") true
    buildNil_holds (fun _ h => by cases h) jWf (fun _ h => by cases h) buildNil_row_tie rfl ⟨rfl, rfl⟩ jMain rfl
    (fun f fn hf hfn => by
      have hf' : Tryz.prog.funcNamed Rows.buildNilRow.func = some f := hf
      rw [jFunc] at hf'
      obtain rfl : 3 = f := Option.some.inj hf'
      have hfn' : Tryz.prog.funcs[(3 : Nat)]? = some fn := hfn
      rw [Tryz.func3] at hfn'
      obtain rfl : Tryz.f3 = fn := Option.some.inj hfn'
      exact ⟨jLooks, fun j t ht => by
        rw [jParams] at ht
        have h3 : t = 3 := by
          rcases j with _ | j
          · simpa using ht.symm
          · simp at ht
        subst h3
        exact jStand⟩)
    jGoes
#print axioms buildNil_card
end Go.Proofs.YtgpdolhclinjdaaGreatDoor
