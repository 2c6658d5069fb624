/-
  DERIVED. GIVEN WITH THE SEED: THE CARDS: each row of YtnpdnlnglahicaaGreatDoorRows.lean that lists a variable, with what it lists TIED to the program's text (the seventh form; the later family's looks); each row that meets fmt, with fmt's text TOLD by the authors' own Lean function (tested against real Go, not proved from fmt's source: count such statements apart). THE CARD IS WHAT COUNTS. Prove the row's statement (the work); the ties are given (YtnpdnlnglahicaaGreatDoorTie.lean); close each card by the builder's one call (the guide's Derived/Test/ToyasCard.lean, 'card_holds'). Laid BY PROGRAM, IN A SANDBOX (cutbox-door.mjs). By AI agents, Wed Nov 11 2026. No macro, syntax, notation, axiom, sorry.
-/
import Derived.Test.YtnpdnlnglahicaaGreatDoorRows
import GoSem.ClaimSeven
namespace Go.Proofs.YtnpdnlnglahicaaGreatDoor
namespace Rows

/-- THE TIED CARD OF 'lexiconlaw18.CodecSame'. -/
def codecSameCard : Claim7 := { stood := { row := codecSameRow, standIns := [], harness := (true, "da83c4a83ed157e8740c55b554eed66fe2fbecc135900df10356bed4b2aa208f"), looks := true }, kinds := [], alts := [], laidByText := true, laidKinds := [.data, .pinned], laidTests := true, laidLooks := .later }
def CodecSameCardSaid : Prop := Claim7.holds Tryz.pinned (.plain (OpenSpec.ofChange codecSameSpec)) codecSameCard

/-- THE SECOND FORM's CARD OF 'lexiconlaw18.CodecSame'. -/
def codecSameUptoCard : Claim7 := { stood := { row := codecSameUptoRow, standIns := [], harness := (true, "da83c4a83ed157e8740c55b554eed66fe2fbecc135900df10356bed4b2aa208f"), looks := true }, kinds := [], alts := [], laidByText := true, laidKinds := [.data, .pinned], laidTests := true, laidLooks := .later }
def CodecSameUptoCardSaid : Prop := Claim7.holds Tryz.pinned (.plain (OpenSpec.upto codecSameSpec)) codecSameUptoCard
end Rows
end Go.Proofs.YtnpdnlnglahicaaGreatDoor
