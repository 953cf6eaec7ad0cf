/-
  DERIVED. GIVEN WITH THE SEED: THE CARDS: each row of YtgpdolhclinjdaaGreatDoorRows.lean that lists a variable, with what it lists TIED to the program's text (the seventh form; the later family's looks); each row that meets fmt, with fmt's text TOLD by the authors' own Lean function (tested against real Go, not proved from fmt's source: count such statements apart). THE CARD IS WHAT COUNTS. Prove the row's statement (the work); the ties are given (YtgpdolhclinjdaaGreatDoorTie.lean); close each card by the builder's one call (the guide's Derived/Test/ToyasCard.lean, 'card_holds'). Laid BY PROGRAM, IN A SANDBOX (cutbox-door.mjs). By AI agents, Wed Nov 11 2026. No macro, syntax, notation, axiom, sorry.
-/
import Derived.Test.YtgpdolhclinjdaaGreatDoorRows
import GoSem.ClaimSeven
namespace Go.Proofs.YtgpdolhclinjdaaGreatDoor
namespace Rows

/-- THE TIED CARD OF 'milepostlaw23.BuildNil'. -/
def buildNilCard : Claim7 := { stood := { row := buildNilRow, standIns := [], harness := (true, "5cf7d24c28c4ba97c318b31fa8d65e2605f30bf2d1b091e1253cfa446e3af173"), looks := true }, kinds := [], alts := [], laidByText := true, laidKinds := [.data, .data, .data, .handle], laidTests := true, laidLooks := .later }
def BuildNilCardSaid : Prop := Claim7.holds Tryz.pinned (.plain (OpenSpec.ofChange buildNilSpec)) buildNilCard

/-- THE SECOND FORM's CARD OF 'milepostlaw23.BuildNil'. -/
def buildNilUptoCard : Claim7 := { stood := { row := buildNilUptoRow, standIns := [], harness := (true, "5cf7d24c28c4ba97c318b31fa8d65e2605f30bf2d1b091e1253cfa446e3af173"), looks := true }, kinds := [], alts := [], laidByText := true, laidKinds := [.data, .data, .data, .handle], laidTests := true, laidLooks := .later }
def BuildNilUptoCardSaid : Prop := Claim7.holds Tryz.pinned (.plain (OpenSpec.upto buildNilSpec)) buildNilUptoCard
end Rows
end Go.Proofs.YtgpdolhclinjdaaGreatDoor
