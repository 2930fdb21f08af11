/-
  DERIVED. GIVEN WITH THE SEED: THE CARDS: each row of YtcmibmohdnbhgaaGreatDoorRows.lean that lists a variable, with what it lists TIED to the program's text (the seventh form; the later family's looks); each row that meets fmt, with fmt's text TOLD by the authors' own Lean function (tested against real Go, not proved from fmt's source: count such statements apart). THE CARD IS WHAT COUNTS. Prove the row's statement (the work); the ties are given (YtcmibmohdnbhgaaGreatDoorTie.lean); close each card by the builder's one call (the guide's Derived/Test/ToyasCard.lean, 'card_holds'). Laid BY PROGRAM, IN A SANDBOX (cutbox-door.mjs). By AI agents, Wed Nov 11 2026. No macro, syntax, notation, axiom, sorry.
-/
import Derived.Test.YtcmibmohdnbhgaaGreatDoorRows
import GoSem.ClaimSeven
namespace Go.Proofs.YtcmibmohdnbhgaaGreatDoor
namespace Rows

/-- THE TIED CARD OF 'ladinglaw13.LicenceImplies'. -/
def licenceImpliesCard : Claim7 := { stood := { row := licenceImpliesRow, standIns := [], harness := (true, "68c7df15095b713c67dfe970c4654c396f1a0aa8be8539c4cd5b88631fd54a92"), looks := true }, kinds := [], alts := [], laidByText := true, laidKinds := [.data, .pinned], laidTests := true, laidLooks := .later }
def LicenceImpliesCardSaid : Prop := Claim7.holds Tryz.pinned (.plain (OpenSpec.ofChange licenceImpliesSpec)) licenceImpliesCard

/-- THE TIED CARD OF 'ladinglaw13.LicenceTells'. -/
def licenceTellsCard : Claim7 := { stood := { row := licenceTellsRow, standIns := [], harness := (true, "68c7df15095b713c67dfe970c4654c396f1a0aa8be8539c4cd5b88631fd54a92"), looks := true }, kinds := [], alts := [], laidByText := true, laidKinds := [.data, .pinned], laidTests := true, laidLooks := .later }
def LicenceTellsCardSaid : Prop := Claim7.holds Tryz.pinned (.plain (OpenSpec.ofChange licenceTellsSpec)) licenceTellsCard

/-- THE TIED CARD OF 'ladinglaw13.LicenceBack'. -/
def licenceBackCard : Claim7 := { stood := { row := licenceBackRow, standIns := [], harness := (true, "68c7df15095b713c67dfe970c4654c396f1a0aa8be8539c4cd5b88631fd54a92"), looks := true }, kinds := [], alts := [], laidByText := true, laidKinds := [.data, .pinned], laidTests := true, laidLooks := .later }
def LicenceBackCardSaid : Prop := Claim7.holds Tryz.pinned (.plain (OpenSpec.ofChange licenceBackSpec)) licenceBackCard

/-- THE TIED CARD OF 'ladinglaw13.LicenceNormal'. -/
def licenceNormalCard : Claim7 := { stood := { row := licenceNormalRow, standIns := [], harness := (true, "68c7df15095b713c67dfe970c4654c396f1a0aa8be8539c4cd5b88631fd54a92"), looks := true }, kinds := [], alts := [], laidByText := true, laidKinds := [.data, .pinned], laidTests := true, laidLooks := .later }
def LicenceNormalCardSaid : Prop := Claim7.holds Tryz.pinned (.plain (OpenSpec.ofChange licenceNormalSpec)) licenceNormalCard

/-- THE SECOND FORM's CARD OF 'ladinglaw13.LicenceImplies'. -/
def licenceImpliesUptoCard : Claim7 := { stood := { row := licenceImpliesUptoRow, standIns := [], harness := (true, "68c7df15095b713c67dfe970c4654c396f1a0aa8be8539c4cd5b88631fd54a92"), looks := true }, kinds := [], alts := [], laidByText := true, laidKinds := [.data, .pinned], laidTests := true, laidLooks := .later }
def LicenceImpliesUptoCardSaid : Prop := Claim7.holds Tryz.pinned (.plain (OpenSpec.upto licenceImpliesSpec)) licenceImpliesUptoCard

/-- THE SECOND FORM's CARD OF 'ladinglaw13.LicenceTells'. -/
def licenceTellsUptoCard : Claim7 := { stood := { row := licenceTellsUptoRow, standIns := [], harness := (true, "68c7df15095b713c67dfe970c4654c396f1a0aa8be8539c4cd5b88631fd54a92"), looks := true }, kinds := [], alts := [], laidByText := true, laidKinds := [.data, .pinned], laidTests := true, laidLooks := .later }
def LicenceTellsUptoCardSaid : Prop := Claim7.holds Tryz.pinned (.plain (OpenSpec.upto licenceTellsSpec)) licenceTellsUptoCard

/-- THE SECOND FORM's CARD OF 'ladinglaw13.LicenceBack'. -/
def licenceBackUptoCard : Claim7 := { stood := { row := licenceBackUptoRow, standIns := [], harness := (true, "68c7df15095b713c67dfe970c4654c396f1a0aa8be8539c4cd5b88631fd54a92"), looks := true }, kinds := [], alts := [], laidByText := true, laidKinds := [.data, .pinned], laidTests := true, laidLooks := .later }
def LicenceBackUptoCardSaid : Prop := Claim7.holds Tryz.pinned (.plain (OpenSpec.upto licenceBackSpec)) licenceBackUptoCard

/-- THE SECOND FORM's CARD OF 'ladinglaw13.LicenceNormal'. -/
def licenceNormalUptoCard : Claim7 := { stood := { row := licenceNormalUptoRow, standIns := [], harness := (true, "68c7df15095b713c67dfe970c4654c396f1a0aa8be8539c4cd5b88631fd54a92"), looks := true }, kinds := [], alts := [], laidByText := true, laidKinds := [.data, .pinned], laidTests := true, laidLooks := .later }
def LicenceNormalUptoCardSaid : Prop := Claim7.holds Tryz.pinned (.plain (OpenSpec.upto licenceNormalSpec)) licenceNormalUptoCard
end Rows
end Go.Proofs.YtcmibmohdnbhgaaGreatDoor
