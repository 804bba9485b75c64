/-
  DERIVED. GIVEN WITH THE SEED: THE CARDS: each row of YtfgkpganiabpkaaGreatDoorRows.lean that lists a variable, with what it lists TIED to the program's text (the seventh form; the later family's looks); each row that meets fmt, with fmt's text TOLD by the authors' own Lean function (tested against real Go, not proved from fmt's source: count such statements apart). THE CARD IS WHAT COUNTS. Prove the row's statement (the work); the ties are given (YtfgkpganiabpkaaGreatDoorTie.lean); close each card by the builder's one call (the guide's Derived/Test/ToyasCard.lean, 'card_holds'). Laid BY PROGRAM, IN A SANDBOX (cutbox-door.mjs). By AI agents, Wed Nov 11 2026. No macro, syntax, notation, axiom, sorry.
-/
import Derived.Test.YtfgkpganiabpkaaGreatDoorRows
import GoSem.ClaimSeven
namespace Go.Proofs.YtfgkpganiabpkaaGreatDoor
namespace Rows

/-- THE TIED CARD OF 'invigilatortop.TopSharedFolds'. -/
def topSharedFoldsCard : Claim7 := { stood := { row := topSharedFoldsRow, standIns := [], harness := (true, "d52150998de99b18ba541214dcb678b3917a69898b845e2ef17e789a0c0ae029"), looks := true }, kinds := [], alts := [], laidByText := true, laidKinds := [.data, .data, .data, .data, .handle, .sentinel, .sentinel, .data, .widerDeep, .widerDeep, .pinned], laidTests := true, laidLooks := .later }
def TopSharedFoldsCardSaid : Prop := Claim7.holds Tryz.pinned (.plain (OpenSpec.ofChange topSharedFoldsSpec)) topSharedFoldsCard

/-- THE SECOND FORM's CARD OF 'invigilatortop.TopSharedFolds'. -/
def topSharedFoldsUptoCard : Claim7 := { stood := { row := topSharedFoldsUptoRow, standIns := [], harness := (true, "d52150998de99b18ba541214dcb678b3917a69898b845e2ef17e789a0c0ae029"), looks := true }, kinds := [], alts := [], laidByText := true, laidKinds := [.data, .data, .data, .data, .handle, .sentinel, .sentinel, .data, .widerDeep, .widerDeep, .pinned], laidTests := true, laidLooks := .later }
def TopSharedFoldsUptoCardSaid : Prop := Claim7.holds Tryz.pinned (.plain (OpenSpec.upto topSharedFoldsSpec)) topSharedFoldsUptoCard
end Rows
end Go.Proofs.YtfgkpganiabpkaaGreatDoor
