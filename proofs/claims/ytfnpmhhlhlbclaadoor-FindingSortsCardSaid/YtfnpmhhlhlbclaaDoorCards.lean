/-
  DERIVED. GIVEN WITH THE SEED: THE CARDS: each row of YtfnpmhhlhlbclaaDoorRows.lean that lists a variable, with what it lists TIED to the program's text (the seventh form; the later family's looks); each row that meets fmt, with fmt's text TOLD by the authors' own Lean function (tested against real Go, not proved from fmt's source: count such statements apart). THE CARD IS WHAT COUNTS. Prove the row's statement (the work); the ties are given (YtfnpmhhlhlbclaaDoorTie.lean); close each card by the builder's one call (the guide's Derived/Test/ToyasCard.lean, 'card_holds'). Laid BY PROGRAM, IN A SANDBOX (cutbox-door.mjs). By AI agents, Wed Nov 11 2026. No macro, syntax, notation, axiom, sorry.
-/
import Derived.Test.YtfnpmhhlhlbclaaDoorRows
import GoSem.ClaimSeven
namespace Go.Proofs.YtfnpmhhlhlbclaaDoor
namespace Rows

/-- THE TIED CARD OF 'dataflowlaw45.FindingTells'. -/
def findingTellsCard : Claim7 := { stood := { row := findingTellsRow, standIns := [], harness := (true, "804997537eb325271dcf4f506f86c916241eadb7416b3d008f4ab1753c861dd6"), looks := false }, kinds := [], alts := [], laidByText := true, laidKinds := [.data, .data, .data, .data], laidTests := true, laidLooks := .later }
def FindingTellsCardSaid : Prop := Claim7.holds Tryd.pinned (.plain (OpenSpec.ofChange findingTellsSpec)) findingTellsCard

/-- THE TIED CARD OF 'dataflowlaw45.FindingSorts'. -/
def findingSortsCard : Claim7 := { stood := { row := findingSortsRow, standIns := [], harness := (true, "804997537eb325271dcf4f506f86c916241eadb7416b3d008f4ab1753c861dd6"), looks := false }, kinds := [], alts := [], laidByText := true, laidKinds := [.data, .data, .data, .data], laidTests := true, laidLooks := .later }
def FindingSortsCardSaid : Prop := Claim7.holds Tryd.pinned (.plain (OpenSpec.ofChange findingSortsSpec)) findingSortsCard

/-- THE TIED CARD OF 'dataflowlaw45.FindingOrder'. -/
def findingOrderCard : Claim7 := { stood := { row := findingOrderRow, standIns := [], harness := (true, "804997537eb325271dcf4f506f86c916241eadb7416b3d008f4ab1753c861dd6"), looks := false }, kinds := [], alts := [], laidByText := true, laidKinds := [.data, .data, .data, .data], laidTests := true, laidLooks := .later }
def FindingOrderCardSaid : Prop := Claim7.holds Tryd.pinned (.plain (OpenSpec.ofChange findingOrderSpec)) findingOrderCard

/-- THE TIED CARD OF 'dataflowlaw45.FindingKeys'. -/
def findingKeysCard : Claim7 := { stood := { row := findingKeysRow, standIns := [], harness := (true, "804997537eb325271dcf4f506f86c916241eadb7416b3d008f4ab1753c861dd6"), looks := false }, kinds := [], alts := [], laidByText := true, laidKinds := [.data, .data, .data, .data], laidTests := true, laidLooks := .later }
def FindingKeysCardSaid : Prop := Claim7.holds Tryd.pinned (.plain (OpenSpec.ofChange findingKeysSpec)) findingKeysCard

/-- THE SECOND FORM's CARD OF 'dataflowlaw45.FindingTells'. -/
def findingTellsUptoCard : Claim7 := { stood := { row := findingTellsUptoRow, standIns := [], harness := (true, "804997537eb325271dcf4f506f86c916241eadb7416b3d008f4ab1753c861dd6"), looks := false }, kinds := [], alts := [], laidByText := true, laidKinds := [.data, .data, .data, .data], laidTests := true, laidLooks := .later }
def FindingTellsUptoCardSaid : Prop := Claim7.holds Tryd.pinned (.plain (OpenSpec.upto findingTellsSpec)) findingTellsUptoCard

/-- THE SECOND FORM's CARD OF 'dataflowlaw45.FindingSorts'. -/
def findingSortsUptoCard : Claim7 := { stood := { row := findingSortsUptoRow, standIns := [], harness := (true, "804997537eb325271dcf4f506f86c916241eadb7416b3d008f4ab1753c861dd6"), looks := false }, kinds := [], alts := [], laidByText := true, laidKinds := [.data, .data, .data, .data], laidTests := true, laidLooks := .later }
def FindingSortsUptoCardSaid : Prop := Claim7.holds Tryd.pinned (.plain (OpenSpec.upto findingSortsSpec)) findingSortsUptoCard

/-- THE SECOND FORM's CARD OF 'dataflowlaw45.FindingOrder'. -/
def findingOrderUptoCard : Claim7 := { stood := { row := findingOrderUptoRow, standIns := [], harness := (true, "804997537eb325271dcf4f506f86c916241eadb7416b3d008f4ab1753c861dd6"), looks := false }, kinds := [], alts := [], laidByText := true, laidKinds := [.data, .data, .data, .data], laidTests := true, laidLooks := .later }
def FindingOrderUptoCardSaid : Prop := Claim7.holds Tryd.pinned (.plain (OpenSpec.upto findingOrderSpec)) findingOrderUptoCard

/-- THE SECOND FORM's CARD OF 'dataflowlaw45.FindingKeys'. -/
def findingKeysUptoCard : Claim7 := { stood := { row := findingKeysUptoRow, standIns := [], harness := (true, "804997537eb325271dcf4f506f86c916241eadb7416b3d008f4ab1753c861dd6"), looks := false }, kinds := [], alts := [], laidByText := true, laidKinds := [.data, .data, .data, .data], laidTests := true, laidLooks := .later }
def FindingKeysUptoCardSaid : Prop := Claim7.holds Tryd.pinned (.plain (OpenSpec.upto findingKeysSpec)) findingKeysUptoCard
end Rows
end Go.Proofs.YtfnpmhhlhlbclaaDoor
