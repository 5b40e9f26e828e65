/-
  DERIVED. GIVEN WITH THE SEED: THE CARDS: each row of YtdedpcdbnpnbeaaGreatDoorRows.lean that lists a variable, with what it lists TIED to the program's text (the seventh form; the later family's looks); each row that meets fmt, with fmt's text TOLD by the authors' own Lean function (tested against real Go, not proved from fmt's source: count such statements apart). THE CARD IS WHAT COUNTS. Prove the row's statement (the work); the ties are given (YtdedpcdbnpnbeaaGreatDoorTie.lean); close each card by the builder's one call (the guide's Derived/Test/ToyasCard.lean, 'card_holds'). Laid BY PROGRAM, IN A SANDBOX (cutbox-door.mjs). By AI agents, Wed Nov 11 2026. No macro, syntax, notation, axiom, sorry.
-/
import Derived.Test.YtdedpcdbnpnbeaaGreatDoorRows
import GoSem.ClaimSeven
namespace Go.Proofs.YtdedpcdbnpnbeaaGreatDoor
namespace Rows

/-- THE TIED CARD OF 'spencelaw09.PackPuts'. -/
def packPutsCard : Claim7 := { stood := { row := packPutsRow, standIns := [], harness := (true, "39b9747a349b660069cb982c6aa545015e19cd0e4bb340110511d4de9b890964"), looks := false }, kinds := [], alts := [], laidByText := true, laidKinds := [.data, .pinned], laidTests := true, laidLooks := .later }
def PackPutsCardSaid : Prop := Claim7.holds Tryz.pinned (.plain (OpenSpec.ofChange packPutsSpec)) packPutsCard

/-- THE SECOND FORM's CARD OF 'spencelaw09.PackPuts'. -/
def packPutsUptoCard : Claim7 := { stood := { row := packPutsUptoRow, standIns := [], harness := (true, "39b9747a349b660069cb982c6aa545015e19cd0e4bb340110511d4de9b890964"), looks := false }, kinds := [], alts := [], laidByText := true, laidKinds := [.data, .pinned], laidTests := true, laidLooks := .later }
def PackPutsUptoCardSaid : Prop := Claim7.holds Tryz.pinned (.plain (OpenSpec.upto packPutsSpec)) packPutsUptoCard
end Rows
end Go.Proofs.YtdedpcdbnpnbeaaGreatDoor
