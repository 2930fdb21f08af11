/-
  DERIVED. GIVEN WITH THE SEED: THE CARDS: each row of YtkhlbajdoaokeaaDoorRows.lean that lists a variable, with what it lists TIED to the program's text (the seventh form; the later family's looks); each row that meets fmt, with fmt's text TOLD by the authors' own Lean function (tested against real Go, not proved from fmt's source: count such statements apart). THE CARD IS WHAT COUNTS. Prove the row's statement (the work); the ties are given (YtkhlbajdoaokeaaDoorTie.lean); close each card by the builder's one call (the guide's Derived/Test/ToyasCard.lean, 'card_holds'). Laid BY PROGRAM, IN A SANDBOX (cutbox-door.mjs). By AI agents, Wed Nov 11 2026. No macro, syntax, notation, axiom, sorry.
-/
import Derived.Test.YtkhlbajdoaokeaaDoorRows
import GoSem.ClaimSeven
namespace Go.Proofs.YtkhlbajdoaokeaaDoor
namespace Rows

/-- THE TIED CARD OF 'ladinglaw10.NameTells'. -/
def nameTellsCard : Claim7 := { stood := { row := nameTellsRow, standIns := [], harness := (true, "f84cef4283deb05fbd094df34e34a993400a61ac9884681588aae6f554788c2f"), looks := false }, kinds := [], alts := [], laidByText := true, laidKinds := [.data, .pinned], laidTests := true, laidLooks := .later }
def NameTellsCardSaid : Prop := Claim7.holds Tryd.pinned (.plain (OpenSpec.ofChange nameTellsSpec)) nameTellsCard

/-- THE TIED CARD OF 'ladinglaw10.NameGuards'. -/
def nameGuardsCard : Claim7 := { stood := { row := nameGuardsRow, standIns := [], harness := (true, "f84cef4283deb05fbd094df34e34a993400a61ac9884681588aae6f554788c2f"), looks := false }, kinds := [], alts := [], laidByText := true, laidKinds := [.data, .pinned], laidTests := true, laidLooks := .later }
def NameGuardsCardSaid : Prop := Claim7.holds Tryd.pinned (.plain (OpenSpec.ofChange nameGuardsSpec)) nameGuardsCard

/-- THE TIED CARD OF 'ladinglaw10.NameAlike'. -/
def nameAlikeCard : Claim7 := { stood := { row := nameAlikeRow, standIns := [], harness := (true, "f84cef4283deb05fbd094df34e34a993400a61ac9884681588aae6f554788c2f"), looks := false }, kinds := [], alts := [], laidByText := true, laidKinds := [.data, .pinned], laidTests := true, laidLooks := .later }
def NameAlikeCardSaid : Prop := Claim7.holds Tryd.pinned (.plain (OpenSpec.ofChange nameAlikeSpec)) nameAlikeCard

/-- THE TIED CARD OF 'ladinglaw10.NameHolds'. -/
def nameHoldsCard : Claim7 := { stood := { row := nameHoldsRow, standIns := [], harness := (true, "f84cef4283deb05fbd094df34e34a993400a61ac9884681588aae6f554788c2f"), looks := false }, kinds := [], alts := [], laidByText := true, laidKinds := [.data, .pinned], laidTests := true, laidLooks := .later }
def NameHoldsCardSaid : Prop := Claim7.holds Tryd.pinned (.plain (OpenSpec.ofChange nameHoldsSpec)) nameHoldsCard

/-- THE TIED CARD OF 'ladinglaw10.NameTurns'. -/
def nameTurnsCard : Claim7 := { stood := { row := nameTurnsRow, standIns := [], harness := (true, "f84cef4283deb05fbd094df34e34a993400a61ac9884681588aae6f554788c2f"), looks := false }, kinds := [], alts := [], laidByText := true, laidKinds := [.data, .pinned], laidTests := true, laidLooks := .later }
def NameTurnsCardSaid : Prop := Claim7.holds Tryd.pinned (.plain (OpenSpec.ofChange nameTurnsSpec)) nameTurnsCard

/-- THE SECOND FORM's CARD OF 'ladinglaw10.NameTells'. -/
def nameTellsUptoCard : Claim7 := { stood := { row := nameTellsUptoRow, standIns := [], harness := (true, "f84cef4283deb05fbd094df34e34a993400a61ac9884681588aae6f554788c2f"), looks := false }, kinds := [], alts := [], laidByText := true, laidKinds := [.data, .pinned], laidTests := true, laidLooks := .later }
def NameTellsUptoCardSaid : Prop := Claim7.holds Tryd.pinned (.plain (OpenSpec.upto nameTellsSpec)) nameTellsUptoCard

/-- THE SECOND FORM's CARD OF 'ladinglaw10.NameGuards'. -/
def nameGuardsUptoCard : Claim7 := { stood := { row := nameGuardsUptoRow, standIns := [], harness := (true, "f84cef4283deb05fbd094df34e34a993400a61ac9884681588aae6f554788c2f"), looks := false }, kinds := [], alts := [], laidByText := true, laidKinds := [.data, .pinned], laidTests := true, laidLooks := .later }
def NameGuardsUptoCardSaid : Prop := Claim7.holds Tryd.pinned (.plain (OpenSpec.upto nameGuardsSpec)) nameGuardsUptoCard

/-- THE SECOND FORM's CARD OF 'ladinglaw10.NameAlike'. -/
def nameAlikeUptoCard : Claim7 := { stood := { row := nameAlikeUptoRow, standIns := [], harness := (true, "f84cef4283deb05fbd094df34e34a993400a61ac9884681588aae6f554788c2f"), looks := false }, kinds := [], alts := [], laidByText := true, laidKinds := [.data, .pinned], laidTests := true, laidLooks := .later }
def NameAlikeUptoCardSaid : Prop := Claim7.holds Tryd.pinned (.plain (OpenSpec.upto nameAlikeSpec)) nameAlikeUptoCard

/-- THE SECOND FORM's CARD OF 'ladinglaw10.NameHolds'. -/
def nameHoldsUptoCard : Claim7 := { stood := { row := nameHoldsUptoRow, standIns := [], harness := (true, "f84cef4283deb05fbd094df34e34a993400a61ac9884681588aae6f554788c2f"), looks := false }, kinds := [], alts := [], laidByText := true, laidKinds := [.data, .pinned], laidTests := true, laidLooks := .later }
def NameHoldsUptoCardSaid : Prop := Claim7.holds Tryd.pinned (.plain (OpenSpec.upto nameHoldsSpec)) nameHoldsUptoCard

/-- THE SECOND FORM's CARD OF 'ladinglaw10.NameTurns'. -/
def nameTurnsUptoCard : Claim7 := { stood := { row := nameTurnsUptoRow, standIns := [], harness := (true, "f84cef4283deb05fbd094df34e34a993400a61ac9884681588aae6f554788c2f"), looks := false }, kinds := [], alts := [], laidByText := true, laidKinds := [.data, .pinned], laidTests := true, laidLooks := .later }
def NameTurnsUptoCardSaid : Prop := Claim7.holds Tryd.pinned (.plain (OpenSpec.upto nameTurnsSpec)) nameTurnsUptoCard
end Rows
end Go.Proofs.YtkhlbajdoaokeaaDoor
