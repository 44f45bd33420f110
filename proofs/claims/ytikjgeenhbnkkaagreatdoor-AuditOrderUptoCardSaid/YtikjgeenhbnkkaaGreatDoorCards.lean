/-
  DERIVED. GIVEN WITH THE SEED: THE CARDS: each row of YtikjgeenhbnkkaaGreatDoorRows.lean that lists a variable, with what it lists TIED to the program's text (the seventh form; the later family's looks); each row that meets fmt, with fmt's text TOLD by the authors' own Lean function (tested against real Go, not proved from fmt's source: count such statements apart). THE CARD IS WHAT COUNTS. Prove the row's statement (the work); the ties are given (YtikjgeenhbnkkaaGreatDoorTie.lean); close each card by the builder's one call (the guide's Derived/Test/ToyasCard.lean, 'card_holds'). Laid BY PROGRAM, IN A SANDBOX (cutbox-door.mjs). By AI agents, Wed Nov 11 2026. No macro, syntax, notation, axiom, sorry.
-/
import Derived.Test.YtikjgeenhbnkkaaGreatDoorRows
import GoSem.ClaimSeven
namespace Go.Proofs.YtikjgeenhbnkkaaGreatDoor
namespace Rows

/-- THE TIED CARD OF 'byrelaw28.AuditSums'. -/
def auditSumsCard : Claim7 := { stood := { row := auditSumsRow, standIns := [], harness := (true, "c5e29d7a280288a6b52e6735389af4227c058bf6a17005f623e6a72175719cd7"), looks := false }, kinds := [], alts := [], laidByText := true, laidKinds := [.data], laidTests := true, laidLooks := .later }
def AuditSumsCardSaid : Prop := Claim7.holds Tryz.pinned (.plain (OpenSpec.ofChange auditSumsSpec)) auditSumsCard

/-- THE TIED CARD OF 'byrelaw28.AuditFinds'. -/
def auditFindsCard : Claim7 := { stood := { row := auditFindsRow, standIns := [], harness := (true, "c5e29d7a280288a6b52e6735389af4227c058bf6a17005f623e6a72175719cd7"), looks := false }, kinds := [], alts := [], laidByText := true, laidKinds := [.data], laidTests := true, laidLooks := .later }
def AuditFindsCardSaid : Prop := Claim7.holds Tryz.pinned (.plain (OpenSpec.ofChange auditFindsSpec)) auditFindsCard

/-- THE TIED CARD OF 'byrelaw28.AuditOrder'. -/
def auditOrderCard : Claim7 := { stood := { row := auditOrderRow, standIns := [], harness := (true, "c5e29d7a280288a6b52e6735389af4227c058bf6a17005f623e6a72175719cd7"), looks := false }, kinds := [], alts := [], laidByText := true, laidKinds := [.data], laidTests := true, laidLooks := .later }
def AuditOrderCardSaid : Prop := Claim7.holds Tryz.pinned (.plain (OpenSpec.ofChange auditOrderSpec)) auditOrderCard

/-- THE SECOND FORM's CARD OF 'byrelaw28.AuditSums'. -/
def auditSumsUptoCard : Claim7 := { stood := { row := auditSumsUptoRow, standIns := [], harness := (true, "c5e29d7a280288a6b52e6735389af4227c058bf6a17005f623e6a72175719cd7"), looks := false }, kinds := [], alts := [], laidByText := true, laidKinds := [.data], laidTests := true, laidLooks := .later }
def AuditSumsUptoCardSaid : Prop := Claim7.holds Tryz.pinned (.plain (OpenSpec.upto auditSumsSpec)) auditSumsUptoCard

/-- THE SECOND FORM's CARD OF 'byrelaw28.AuditFinds'. -/
def auditFindsUptoCard : Claim7 := { stood := { row := auditFindsUptoRow, standIns := [], harness := (true, "c5e29d7a280288a6b52e6735389af4227c058bf6a17005f623e6a72175719cd7"), looks := false }, kinds := [], alts := [], laidByText := true, laidKinds := [.data], laidTests := true, laidLooks := .later }
def AuditFindsUptoCardSaid : Prop := Claim7.holds Tryz.pinned (.plain (OpenSpec.upto auditFindsSpec)) auditFindsUptoCard

/-- THE SECOND FORM's CARD OF 'byrelaw28.AuditOrder'. -/
def auditOrderUptoCard : Claim7 := { stood := { row := auditOrderUptoRow, standIns := [], harness := (true, "c5e29d7a280288a6b52e6735389af4227c058bf6a17005f623e6a72175719cd7"), looks := false }, kinds := [], alts := [], laidByText := true, laidKinds := [.data], laidTests := true, laidLooks := .later }
def AuditOrderUptoCardSaid : Prop := Claim7.holds Tryz.pinned (.plain (OpenSpec.upto auditOrderSpec)) auditOrderUptoCard
end Rows
end Go.Proofs.YtikjgeenhbnkkaaGreatDoor
