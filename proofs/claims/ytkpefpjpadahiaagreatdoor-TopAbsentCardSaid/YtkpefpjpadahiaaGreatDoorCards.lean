/-
  DERIVED. GIVEN WITH THE SEED: THE CARDS: each row of YtkpefpjpadahiaaGreatDoorRows.lean that lists a variable, with what it lists TIED to the program's text (the seventh form; the later family's looks); each row that meets fmt, with fmt's text TOLD by the authors' own Lean function (tested against real Go, not proved from fmt's source: count such statements apart). THE CARD IS WHAT COUNTS. Prove the row's statement (the work); the ties are given (YtkpefpjpadahiaaGreatDoorTie.lean); close each card by the builder's one call (the guide's Derived/Test/ToyasCard.lean, 'card_holds'). Laid BY PROGRAM, IN A SANDBOX (cutbox-door.mjs). By AI agents, Wed Nov 11 2026. No macro, syntax, notation, axiom, sorry.
-/
import Derived.Test.YtkpefpjpadahiaaGreatDoorRows
import GoSem.ClaimSeven
namespace Go.Proofs.YtkpefpjpadahiaaGreatDoor
namespace Rows

/-- THE TIED CARD OF 'ladingtop.TopAbsent'. -/
def topAbsentCard : Claim7 := { stood := { row := topAbsentRow, standIns := [], harness := (true, "96392fa961d1406a57cfd4341ce46cb7dfea27f0d991d0945ccada5f12ddb6c1"), looks := true }, kinds := [], alts := [], laidByText := true, laidKinds := [.data, .data, .data, .data, .sentinel, .sentinel, .listed, .data, .pinned], laidTests := true, laidLooks := .later }
def TopAbsentCardSaid : Prop := Claim7.holds Tryz.pinned (.plain (OpenSpec.ofChange topAbsentSpec)) topAbsentCard

/-- THE SECOND FORM's CARD OF 'ladingtop.TopAbsent'. -/
def topAbsentUptoCard : Claim7 := { stood := { row := topAbsentUptoRow, standIns := [], harness := (true, "96392fa961d1406a57cfd4341ce46cb7dfea27f0d991d0945ccada5f12ddb6c1"), looks := true }, kinds := [], alts := [], laidByText := true, laidKinds := [.data, .data, .data, .data, .sentinel, .sentinel, .listed, .data, .pinned], laidTests := true, laidLooks := .later }
def TopAbsentUptoCardSaid : Prop := Claim7.holds Tryz.pinned (.plain (OpenSpec.upto topAbsentSpec)) topAbsentUptoCard
end Rows
end Go.Proofs.YtkpefpjpadahiaaGreatDoor
