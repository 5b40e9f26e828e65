/-
  DERIVED. GIVEN WITH THE SEED: THE CARDS: each row of YtfiadgdinhmgbaaGreatDoorRows.lean that lists a variable, with what it lists TIED to the program's text (the seventh form; the later family's looks); each row that meets fmt, with fmt's text TOLD by the authors' own Lean function (tested against real Go, not proved from fmt's source: count such statements apart). THE CARD IS WHAT COUNTS. Prove the row's statement (the work); the ties are given (YtfiadgdinhmgbaaGreatDoorTie.lean); close each card by the builder's one call (the guide's Derived/Test/ToyasCard.lean, 'card_holds'). Laid BY PROGRAM, IN A SANDBOX (cutbox-door.mjs). By AI agents, Wed Nov 11 2026. No macro, syntax, notation, axiom, sorry.
-/
import Derived.Test.YtfiadgdinhmgbaaGreatDoorRows
import GoSem.ClaimSeven
namespace Go.Proofs.YtfiadgdinhmgbaaGreatDoor
namespace Rows

/-- THE TIED CARD OF 'spencelaw09.PackEnds'. -/
def packEndsCard : Claim7 := { stood := { row := packEndsRow, standIns := [], harness := (true, "da95a0a20c8a2c40a1a5505554da77ceb81ac86d9442bbba0cf1d31d4d3cf45f"), looks := false }, kinds := [], alts := [], laidByText := true, laidKinds := [.data, .pinned], laidTests := true, laidLooks := .later }
def PackEndsCardSaid : Prop := Claim7.holds Tryz.pinned (.plain (OpenSpec.ofChange packEndsSpec)) packEndsCard

/-- THE SECOND FORM's CARD OF 'spencelaw09.PackEnds'. -/
def packEndsUptoCard : Claim7 := { stood := { row := packEndsUptoRow, standIns := [], harness := (true, "da95a0a20c8a2c40a1a5505554da77ceb81ac86d9442bbba0cf1d31d4d3cf45f"), looks := false }, kinds := [], alts := [], laidByText := true, laidKinds := [.data, .pinned], laidTests := true, laidLooks := .later }
def PackEndsUptoCardSaid : Prop := Claim7.holds Tryz.pinned (.plain (OpenSpec.upto packEndsSpec)) packEndsUptoCard
end Rows
end Go.Proofs.YtfiadgdinhmgbaaGreatDoor
