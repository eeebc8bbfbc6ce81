/-
  DERIVED. GIVEN WITH THE SEED: THE CARDS: each row of YtbkoajipljjonaaDoorRows.lean that lists a variable, with what it lists TIED to the program's text (the seventh form; the later family's looks); each row that meets fmt, with fmt's text TOLD by the authors' own Lean function (tested against real Go, not proved from fmt's source: count such statements apart). THE CARD IS WHAT COUNTS. Prove the row's statement (the work); the ties are given (YtbkoajipljjonaaDoorTie.lean); close each card by the builder's one call (the guide's Derived/Test/ToyasCard.lean, 'card_holds'). Laid BY PROGRAM, IN A SANDBOX (cutbox-door.mjs). By AI agents, Wed Nov 11 2026. No macro, syntax, notation, axiom, sorry.
-/
import Derived.Test.YtbkoajipljjonaaDoorRows
import GoSem.ClaimSeven
namespace Go.Proofs.YtbkoajipljjonaaDoor
namespace Rows

/-- THE TIED CARD OF 'imprimaturlaw12.ParseKeys'. -/
def parseKeysCard : Claim7 := { stood := { row := parseKeysRow, standIns := [], harness := (true, "5ab4145718ab0c8201e50a423085bab3ac03557d515b1d225e1ed4c2641c861e"), looks := true }, kinds := [], alts := [], laidByText := true, laidKinds := [.data, .data, .data, .data, .pinned], laidTests := true, laidLooks := .later }
def ParseKeysCardSaid : Prop := Claim7.holds Tryd.pinned (.plain (OpenSpec.ofChange parseKeysSpec)) parseKeysCard

/-- THE TIED CARD OF 'imprimaturlaw11.ValueSizes'. -/
def valueSizesCard : Claim7 := { stood := { row := valueSizesRow, standIns := [], harness := (true, "5ab4145718ab0c8201e50a423085bab3ac03557d515b1d225e1ed4c2641c861e"), looks := true }, kinds := [], alts := [], laidByText := true, laidKinds := [.data, .data, .data, .data, .pinned], laidTests := true, laidLooks := .later }
def ValueSizesCardSaid : Prop := Claim7.holds Tryd.pinned (.plain (OpenSpec.ofChange valueSizesSpec)) valueSizesCard

/-- THE TIED CARD OF 'imprimaturlaw11.ValueMakes'. -/
def valueMakesCard : Claim7 := { stood := { row := valueMakesRow, standIns := [], harness := (true, "5ab4145718ab0c8201e50a423085bab3ac03557d515b1d225e1ed4c2641c861e"), looks := true }, kinds := [], alts := [], laidByText := true, laidKinds := [.data, .data, .data, .data, .pinned], laidTests := true, laidLooks := .later }
def ValueMakesCardSaid : Prop := Claim7.holds Tryd.pinned (.plain (OpenSpec.ofChange valueMakesSpec)) valueMakesCard

/-- THE TIED CARD OF 'imprimaturlaw11.ValueKeeps'. -/
def valueKeepsCard : Claim7 := { stood := { row := valueKeepsRow, standIns := [], harness := (true, "5ab4145718ab0c8201e50a423085bab3ac03557d515b1d225e1ed4c2641c861e"), looks := true }, kinds := [], alts := [], laidByText := true, laidKinds := [.data, .data, .data, .data, .pinned], laidTests := true, laidLooks := .later }
def ValueKeepsCardSaid : Prop := Claim7.holds Tryd.pinned (.plain (OpenSpec.ofChange valueKeepsSpec)) valueKeepsCard

/-- THE SECOND FORM's CARD OF 'imprimaturlaw12.ParseKeys'. -/
def parseKeysUptoCard : Claim7 := { stood := { row := parseKeysUptoRow, standIns := [], harness := (true, "5ab4145718ab0c8201e50a423085bab3ac03557d515b1d225e1ed4c2641c861e"), looks := true }, kinds := [], alts := [], laidByText := true, laidKinds := [.data, .data, .data, .data, .pinned], laidTests := true, laidLooks := .later }
def ParseKeysUptoCardSaid : Prop := Claim7.holds Tryd.pinned (.plain (OpenSpec.upto parseKeysSpec)) parseKeysUptoCard

/-- THE SECOND FORM's CARD OF 'imprimaturlaw11.ValueSizes'. -/
def valueSizesUptoCard : Claim7 := { stood := { row := valueSizesUptoRow, standIns := [], harness := (true, "5ab4145718ab0c8201e50a423085bab3ac03557d515b1d225e1ed4c2641c861e"), looks := true }, kinds := [], alts := [], laidByText := true, laidKinds := [.data, .data, .data, .data, .pinned], laidTests := true, laidLooks := .later }
def ValueSizesUptoCardSaid : Prop := Claim7.holds Tryd.pinned (.plain (OpenSpec.upto valueSizesSpec)) valueSizesUptoCard

/-- THE SECOND FORM's CARD OF 'imprimaturlaw11.ValueMakes'. -/
def valueMakesUptoCard : Claim7 := { stood := { row := valueMakesUptoRow, standIns := [], harness := (true, "5ab4145718ab0c8201e50a423085bab3ac03557d515b1d225e1ed4c2641c861e"), looks := true }, kinds := [], alts := [], laidByText := true, laidKinds := [.data, .data, .data, .data, .pinned], laidTests := true, laidLooks := .later }
def ValueMakesUptoCardSaid : Prop := Claim7.holds Tryd.pinned (.plain (OpenSpec.upto valueMakesSpec)) valueMakesUptoCard

/-- THE SECOND FORM's CARD OF 'imprimaturlaw11.ValueKeeps'. -/
def valueKeepsUptoCard : Claim7 := { stood := { row := valueKeepsUptoRow, standIns := [], harness := (true, "5ab4145718ab0c8201e50a423085bab3ac03557d515b1d225e1ed4c2641c861e"), looks := true }, kinds := [], alts := [], laidByText := true, laidKinds := [.data, .data, .data, .data, .pinned], laidTests := true, laidLooks := .later }
def ValueKeepsUptoCardSaid : Prop := Claim7.holds Tryd.pinned (.plain (OpenSpec.upto valueKeepsSpec)) valueKeepsUptoCard
end Rows
end Go.Proofs.YtbkoajipljjonaaDoor
