/-
  DERIVED. GIVEN WITH THE SEED: THE CARDS: each row of YtklmokolnakkoaaGreatDoorRows.lean that lists a variable, with what it lists TIED to the program's text (the seventh form; the later family's looks); each row that meets fmt, with fmt's text TOLD by the authors' own Lean function (tested against real Go, not proved from fmt's source: count such statements apart). THE CARD IS WHAT COUNTS. Prove the row's statement (the work); the ties are given (YtklmokolnakkoaaGreatDoorTie.lean); close each card by the builder's one call (the guide's Derived/Test/ToyasCard.lean, 'card_holds'). Laid BY PROGRAM, IN A SANDBOX (cutbox-door.mjs). By AI agents, Wed Nov 11 2026. No macro, syntax, notation, axiom, sorry.
-/
import Derived.Test.YtklmokolnakkoaaGreatDoorRows
import GoSem.ClaimSeven
namespace Go.Proofs.YtklmokolnakkoaaGreatDoor
namespace Rows

/-- THE TIED CARD OF 'byrelaw21.CoreClass'. -/
def coreClassCard : Claim7 := { stood := { row := coreClassRow, standIns := [], harness := (true, "565a1559acb8c2d5a61303d2655ed2f0e3de66cf7e58cef8635fd604fa545420"), looks := false }, kinds := [], alts := [], laidByText := true, laidKinds := [.widerDeep, .data], laidTests := true, laidLooks := .later }
def CoreClassCardSaid : Prop := Claim7.holds Tryz.pinned (.plain (OpenSpec.ofChange coreClassSpec)) coreClassCard

/-- THE TIED CARD OF 'byrelaw21.CoreNew'. -/
def coreNewCard : Claim7 := { stood := { row := coreNewRow, standIns := [], harness := (true, "565a1559acb8c2d5a61303d2655ed2f0e3de66cf7e58cef8635fd604fa545420"), looks := false }, kinds := [], alts := [], laidByText := true, laidKinds := [.widerDeep, .data], laidTests := true, laidLooks := .later }
def CoreNewCardSaid : Prop := Claim7.holds Tryz.pinned (.plain (OpenSpec.ofChange coreNewSpec)) coreNewCard

/-- THE TIED CARD OF 'byrelaw21.CoreHolds'. -/
def coreHoldsCard : Claim7 := { stood := { row := coreHoldsRow, standIns := [], harness := (true, "565a1559acb8c2d5a61303d2655ed2f0e3de66cf7e58cef8635fd604fa545420"), looks := false }, kinds := [], alts := [], laidByText := true, laidKinds := [.widerDeep, .data], laidTests := true, laidLooks := .later }
def CoreHoldsCardSaid : Prop := Claim7.holds Tryz.pinned (.plain (OpenSpec.ofChange coreHoldsSpec)) coreHoldsCard

/-- THE TIED CARD OF 'byrelaw21.CorePictures'. -/
def corePicturesCard : Claim7 := { stood := { row := corePicturesRow, standIns := [], harness := (true, "565a1559acb8c2d5a61303d2655ed2f0e3de66cf7e58cef8635fd604fa545420"), looks := false }, kinds := [], alts := [], laidByText := true, laidKinds := [.widerDeep, .data], laidTests := true, laidLooks := .later }
def CorePicturesCardSaid : Prop := Claim7.holds Tryz.pinned (.plain (OpenSpec.ofChange corePicturesSpec)) corePicturesCard

/-- THE TIED CARD OF 'byrelaw21.CoreMaps'. -/
def coreMapsCard : Claim7 := { stood := { row := coreMapsRow, standIns := [], harness := (true, "565a1559acb8c2d5a61303d2655ed2f0e3de66cf7e58cef8635fd604fa545420"), looks := false }, kinds := [], alts := [], laidByText := true, laidKinds := [.widerDeep, .data], laidTests := true, laidLooks := .later }
def CoreMapsCardSaid : Prop := Claim7.holds Tryz.pinned (.plain (OpenSpec.ofChange coreMapsSpec)) coreMapsCard

/-- THE SECOND FORM's CARD OF 'byrelaw21.CoreClass'. -/
def coreClassUptoCard : Claim7 := { stood := { row := coreClassUptoRow, standIns := [], harness := (true, "565a1559acb8c2d5a61303d2655ed2f0e3de66cf7e58cef8635fd604fa545420"), looks := false }, kinds := [], alts := [], laidByText := true, laidKinds := [.widerDeep, .data], laidTests := true, laidLooks := .later }
def CoreClassUptoCardSaid : Prop := Claim7.holds Tryz.pinned (.plain (OpenSpec.upto coreClassSpec)) coreClassUptoCard

/-- THE SECOND FORM's CARD OF 'byrelaw21.CoreNew'. -/
def coreNewUptoCard : Claim7 := { stood := { row := coreNewUptoRow, standIns := [], harness := (true, "565a1559acb8c2d5a61303d2655ed2f0e3de66cf7e58cef8635fd604fa545420"), looks := false }, kinds := [], alts := [], laidByText := true, laidKinds := [.widerDeep, .data], laidTests := true, laidLooks := .later }
def CoreNewUptoCardSaid : Prop := Claim7.holds Tryz.pinned (.plain (OpenSpec.upto coreNewSpec)) coreNewUptoCard

/-- THE SECOND FORM's CARD OF 'byrelaw21.CoreHolds'. -/
def coreHoldsUptoCard : Claim7 := { stood := { row := coreHoldsUptoRow, standIns := [], harness := (true, "565a1559acb8c2d5a61303d2655ed2f0e3de66cf7e58cef8635fd604fa545420"), looks := false }, kinds := [], alts := [], laidByText := true, laidKinds := [.widerDeep, .data], laidTests := true, laidLooks := .later }
def CoreHoldsUptoCardSaid : Prop := Claim7.holds Tryz.pinned (.plain (OpenSpec.upto coreHoldsSpec)) coreHoldsUptoCard

/-- THE SECOND FORM's CARD OF 'byrelaw21.CorePictures'. -/
def corePicturesUptoCard : Claim7 := { stood := { row := corePicturesUptoRow, standIns := [], harness := (true, "565a1559acb8c2d5a61303d2655ed2f0e3de66cf7e58cef8635fd604fa545420"), looks := false }, kinds := [], alts := [], laidByText := true, laidKinds := [.widerDeep, .data], laidTests := true, laidLooks := .later }
def CorePicturesUptoCardSaid : Prop := Claim7.holds Tryz.pinned (.plain (OpenSpec.upto corePicturesSpec)) corePicturesUptoCard

/-- THE SECOND FORM's CARD OF 'byrelaw21.CoreMaps'. -/
def coreMapsUptoCard : Claim7 := { stood := { row := coreMapsUptoRow, standIns := [], harness := (true, "565a1559acb8c2d5a61303d2655ed2f0e3de66cf7e58cef8635fd604fa545420"), looks := false }, kinds := [], alts := [], laidByText := true, laidKinds := [.widerDeep, .data], laidTests := true, laidLooks := .later }
def CoreMapsUptoCardSaid : Prop := Claim7.holds Tryz.pinned (.plain (OpenSpec.upto coreMapsSpec)) coreMapsUptoCard
end Rows
end Go.Proofs.YtklmokolnakkoaaGreatDoor
