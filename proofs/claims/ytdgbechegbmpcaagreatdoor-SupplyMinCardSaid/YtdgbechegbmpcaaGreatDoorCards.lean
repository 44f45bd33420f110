/-
  DERIVED. GIVEN WITH THE SEED: THE CARDS: each row of YtdgbechegbmpcaaGreatDoorRows.lean that lists a variable, with what it lists TIED to the program's text (the seventh form; the later family's looks); each row that meets fmt, with fmt's text TOLD by the authors' own Lean function (tested against real Go, not proved from fmt's source: count such statements apart). THE CARD IS WHAT COUNTS. Prove the row's statement (the work); the ties are given (YtdgbechegbmpcaaGreatDoorTie.lean); close each card by the builder's one call (the guide's Derived/Test/ToyasCard.lean, 'card_holds'). Laid BY PROGRAM, IN A SANDBOX (cutbox-door.mjs). By AI agents, Wed Nov 11 2026. No macro, syntax, notation, axiom, sorry.
-/
import Derived.Test.YtdgbechegbmpcaaGreatDoorRows
import GoSem.ClaimSeven
namespace Go.Proofs.YtdgbechegbmpcaaGreatDoor
namespace Rows

/-- THE TIED CARD OF 'byrelaw23.SupplyMin'. -/
def supplyMinCard : Claim7 := { stood := { row := supplyMinRow, standIns := [], harness := (true, "77e6b05a7e9bb364df27722a40ef9b4d503a11070fece687fc39cb7a9b72f41c"), looks := false }, kinds := [], alts := [], laidByText := true, laidKinds := [.widerDeep, .data], laidTests := true, laidLooks := .later }
def SupplyMinCardSaid : Prop := Claim7.holds Tryz.pinned (.plain (OpenSpec.ofChange supplyMinSpec)) supplyMinCard

/-- THE TIED CARD OF 'byrelaw23.SupplyAlone'. -/
def supplyAloneCard : Claim7 := { stood := { row := supplyAloneRow, standIns := [], harness := (true, "77e6b05a7e9bb364df27722a40ef9b4d503a11070fece687fc39cb7a9b72f41c"), looks := false }, kinds := [], alts := [], laidByText := true, laidKinds := [.widerDeep, .data], laidTests := true, laidLooks := .later }
def SupplyAloneCardSaid : Prop := Claim7.holds Tryz.pinned (.plain (OpenSpec.ofChange supplyAloneSpec)) supplyAloneCard

/-- THE TIED CARD OF 'byrelaw23.SupplySwapd'. -/
def supplySwapdCard : Claim7 := { stood := { row := supplySwapdRow, standIns := [], harness := (true, "77e6b05a7e9bb364df27722a40ef9b4d503a11070fece687fc39cb7a9b72f41c"), looks := false }, kinds := [], alts := [], laidByText := true, laidKinds := [.widerDeep, .data], laidTests := true, laidLooks := .later }
def SupplySwapdCardSaid : Prop := Claim7.holds Tryz.pinned (.plain (OpenSpec.ofChange supplySwapdSpec)) supplySwapdCard

/-- THE TIED CARD OF 'byrelaw23.SupplyBack'. -/
def supplyBackCard : Claim7 := { stood := { row := supplyBackRow, standIns := [], harness := (true, "77e6b05a7e9bb364df27722a40ef9b4d503a11070fece687fc39cb7a9b72f41c"), looks := false }, kinds := [], alts := [], laidByText := true, laidKinds := [.widerDeep, .data], laidTests := true, laidLooks := .later }
def SupplyBackCardSaid : Prop := Claim7.holds Tryz.pinned (.plain (OpenSpec.ofChange supplyBackSpec)) supplyBackCard

/-- THE TIED CARD OF 'byrelaw23.SupplyPass'. -/
def supplyPassCard : Claim7 := { stood := { row := supplyPassRow, standIns := [], harness := (true, "77e6b05a7e9bb364df27722a40ef9b4d503a11070fece687fc39cb7a9b72f41c"), looks := false }, kinds := [], alts := [], laidByText := true, laidKinds := [.widerDeep, .data], laidTests := true, laidLooks := .later }
def SupplyPassCardSaid : Prop := Claim7.holds Tryz.pinned (.plain (OpenSpec.ofChange supplyPassSpec)) supplyPassCard

/-- THE SECOND FORM's CARD OF 'byrelaw23.SupplyMin'. -/
def supplyMinUptoCard : Claim7 := { stood := { row := supplyMinUptoRow, standIns := [], harness := (true, "77e6b05a7e9bb364df27722a40ef9b4d503a11070fece687fc39cb7a9b72f41c"), looks := false }, kinds := [], alts := [], laidByText := true, laidKinds := [.widerDeep, .data], laidTests := true, laidLooks := .later }
def SupplyMinUptoCardSaid : Prop := Claim7.holds Tryz.pinned (.plain (OpenSpec.upto supplyMinSpec)) supplyMinUptoCard

/-- THE SECOND FORM's CARD OF 'byrelaw23.SupplyAlone'. -/
def supplyAloneUptoCard : Claim7 := { stood := { row := supplyAloneUptoRow, standIns := [], harness := (true, "77e6b05a7e9bb364df27722a40ef9b4d503a11070fece687fc39cb7a9b72f41c"), looks := false }, kinds := [], alts := [], laidByText := true, laidKinds := [.widerDeep, .data], laidTests := true, laidLooks := .later }
def SupplyAloneUptoCardSaid : Prop := Claim7.holds Tryz.pinned (.plain (OpenSpec.upto supplyAloneSpec)) supplyAloneUptoCard

/-- THE SECOND FORM's CARD OF 'byrelaw23.SupplySwapd'. -/
def supplySwapdUptoCard : Claim7 := { stood := { row := supplySwapdUptoRow, standIns := [], harness := (true, "77e6b05a7e9bb364df27722a40ef9b4d503a11070fece687fc39cb7a9b72f41c"), looks := false }, kinds := [], alts := [], laidByText := true, laidKinds := [.widerDeep, .data], laidTests := true, laidLooks := .later }
def SupplySwapdUptoCardSaid : Prop := Claim7.holds Tryz.pinned (.plain (OpenSpec.upto supplySwapdSpec)) supplySwapdUptoCard

/-- THE SECOND FORM's CARD OF 'byrelaw23.SupplyBack'. -/
def supplyBackUptoCard : Claim7 := { stood := { row := supplyBackUptoRow, standIns := [], harness := (true, "77e6b05a7e9bb364df27722a40ef9b4d503a11070fece687fc39cb7a9b72f41c"), looks := false }, kinds := [], alts := [], laidByText := true, laidKinds := [.widerDeep, .data], laidTests := true, laidLooks := .later }
def SupplyBackUptoCardSaid : Prop := Claim7.holds Tryz.pinned (.plain (OpenSpec.upto supplyBackSpec)) supplyBackUptoCard

/-- THE SECOND FORM's CARD OF 'byrelaw23.SupplyPass'. -/
def supplyPassUptoCard : Claim7 := { stood := { row := supplyPassUptoRow, standIns := [], harness := (true, "77e6b05a7e9bb364df27722a40ef9b4d503a11070fece687fc39cb7a9b72f41c"), looks := false }, kinds := [], alts := [], laidByText := true, laidKinds := [.widerDeep, .data], laidTests := true, laidLooks := .later }
def SupplyPassUptoCardSaid : Prop := Claim7.holds Tryz.pinned (.plain (OpenSpec.upto supplyPassSpec)) supplyPassUptoCard
end Rows
end Go.Proofs.YtdgbechegbmpcaaGreatDoor
