/-
  DERIVED. GIVEN WITH THE SEED: THE CARDS: each row of YtcppfkflcigjcaaGreatDoorRows.lean that lists a variable, with what it lists TIED to the program's text (the seventh form; the later family's looks); each row that meets fmt, with fmt's text TOLD by the authors' own Lean function (tested against real Go, not proved from fmt's source: count such statements apart). THE CARD IS WHAT COUNTS. Prove the row's statement (the work); the ties are given (YtcppfkflcigjcaaGreatDoorTie.lean); close each card by the builder's one call (the guide's Derived/Test/ToyasCard.lean, 'card_holds'). Laid BY PROGRAM, IN A SANDBOX (cutbox-door.mjs). By AI agents, Wed Nov 11 2026. No macro, syntax, notation, axiom, sorry.
-/
import Derived.Test.YtcppfkflcigjcaaGreatDoorRows
import GoSem.ClaimSeven
namespace Go.Proofs.YtcppfkflcigjcaaGreatDoor
namespace Rows

/-- THE TIED CARD OF 'ladingtop.TopBackwards'. -/
def topBackwardsCard : Claim7 := { stood := { row := topBackwardsRow, standIns := [], harness := (true, "df91dc9603aa7fdc69c8abb303af182d62b8270a2c66f5efc49e250a9028dc9e"), looks := true }, kinds := [], alts := [], laidByText := true, laidKinds := [.pinned, .data, .data, .data, .listed, .data, .data, .data, .sentinel, .sentinel], laidTests := true, laidLooks := .later }
def TopBackwardsCardSaid : Prop := Claim7.holds Tryz.pinned (.plain (OpenSpec.ofChange topBackwardsSpec)) topBackwardsCard

/-- THE SECOND FORM's CARD OF 'ladingtop.TopBackwards'. -/
def topBackwardsUptoCard : Claim7 := { stood := { row := topBackwardsUptoRow, standIns := [], harness := (true, "df91dc9603aa7fdc69c8abb303af182d62b8270a2c66f5efc49e250a9028dc9e"), looks := true }, kinds := [], alts := [], laidByText := true, laidKinds := [.pinned, .data, .data, .data, .listed, .data, .data, .data, .sentinel, .sentinel], laidTests := true, laidLooks := .later }
def TopBackwardsUptoCardSaid : Prop := Claim7.holds Tryz.pinned (.plain (OpenSpec.upto topBackwardsSpec)) topBackwardsUptoCard
end Rows
end Go.Proofs.YtcppfkflcigjcaaGreatDoor
