/-
  DERIVED. GIVEN WITH THE SEED: THE CARDS: each row of YtnkneinchiknmaaGreatDoorRows.lean that lists a variable, with what it lists TIED to the program's text (the seventh form; the later family's looks); each row that meets fmt, with fmt's text TOLD by the authors' own Lean function (tested against real Go, not proved from fmt's source: count such statements apart). THE CARD IS WHAT COUNTS. Prove the row's statement (the work); the ties are given (YtnkneinchiknmaaGreatDoorTie.lean); close each card by the builder's one call (the guide's Derived/Test/ToyasCard.lean, 'card_holds'). Laid BY PROGRAM, IN A SANDBOX (cutbox-door.mjs). By AI agents, Wed Nov 11 2026. No macro, syntax, notation, axiom, sorry.
-/
import Derived.Test.YtnkneinchiknmaaGreatDoorRows
import GoSem.ClaimSeven
namespace Go.Proofs.YtnkneinchiknmaaGreatDoor
namespace Rows

/-- THE TIED CARD OF 'milepostlaw24.ScrubNil'. -/
def scrubNilCard : Claim7 := { stood := { row := scrubNilRow, standIns := [], harness := (true, "f4f3552215ec4bd2b5c863e07e8084f200d3b910102349fc812eab6d8666060e"), looks := true }, kinds := [], alts := [], laidByText := true, laidKinds := [.data, .data, .data, .handle], laidTests := true, laidLooks := .later }
def ScrubNilCardSaid : Prop := Claim7.holds Tryz.pinned (.plain (OpenSpec.ofChange scrubNilSpec)) scrubNilCard

/-- THE SECOND FORM's CARD OF 'milepostlaw24.ScrubNil'. -/
def scrubNilUptoCard : Claim7 := { stood := { row := scrubNilUptoRow, standIns := [], harness := (true, "f4f3552215ec4bd2b5c863e07e8084f200d3b910102349fc812eab6d8666060e"), looks := true }, kinds := [], alts := [], laidByText := true, laidKinds := [.data, .data, .data, .handle], laidTests := true, laidLooks := .later }
def ScrubNilUptoCardSaid : Prop := Claim7.holds Tryz.pinned (.plain (OpenSpec.upto scrubNilSpec)) scrubNilUptoCard
end Rows
end Go.Proofs.YtnkneinchiknmaaGreatDoor
