/-
  DERIVED. GIVEN WITH THE SEED: THE CARDS: each row of YtkpgaccgcdoijaaGreatDoorRows.lean that lists a variable, with what it lists TIED to the program's text (the seventh form; the later family's looks); each row that meets fmt, with fmt's text TOLD by the authors' own Lean function (tested against real Go, not proved from fmt's source: count such statements apart). THE CARD IS WHAT COUNTS. Prove the row's statement (the work); the ties are given (YtkpgaccgcdoijaaGreatDoorTie.lean); close each card by the builder's one call (the guide's Derived/Test/ToyasCard.lean, 'card_holds'). Laid BY PROGRAM, IN A SANDBOX (cutbox-door.mjs). By AI agents, Wed Nov 11 2026. No macro, syntax, notation, axiom, sorry.
-/
import Derived.Test.YtkpgaccgcdoijaaGreatDoorRows
import GoSem.ClaimSeven
namespace Go.Proofs.YtkpgaccgcdoijaaGreatDoor
namespace Rows

/-- THE TIED CARD OF 'concordatlaw08.PrintAll'. -/
def printAllCard : Claim7 := { stood := { row := printAllRow, standIns := [], harness := (true, "aa61220985ba286beb24ed013ec06de46eedd460ce2ea34b63651cbdcfb4b031"), looks := false }, kinds := [], alts := [], laidByText := true, laidKinds := [.data, .data, .data, .data, .pinned], laidTests := true, laidLooks := .later }
def PrintAllCardSaid : Prop := Claim7.holds Tryz.pinned (.plain (OpenSpec.ofChange printAllSpec)) printAllCard

/-- THE TIED CARD OF 'concordatlaw08.PrintReads'. -/
def printReadsCard : Claim7 := { stood := { row := printReadsRow, standIns := [], harness := (true, "aa61220985ba286beb24ed013ec06de46eedd460ce2ea34b63651cbdcfb4b031"), looks := false }, kinds := [], alts := [], laidByText := true, laidKinds := [.data, .data, .data, .data, .pinned], laidTests := true, laidLooks := .later }
def PrintReadsCardSaid : Prop := Claim7.holds Tryz.pinned (.plain (OpenSpec.ofChange printReadsSpec)) printReadsCard

/-- THE TIED CARD OF 'concordatlaw08.PrintBack'. -/
def printBackCard : Claim7 := { stood := { row := printBackRow, standIns := [], harness := (true, "aa61220985ba286beb24ed013ec06de46eedd460ce2ea34b63651cbdcfb4b031"), looks := false }, kinds := [], alts := [], laidByText := true, laidKinds := [.data, .data, .data, .data, .pinned], laidTests := true, laidLooks := .later }
def PrintBackCardSaid : Prop := Claim7.holds Tryz.pinned (.plain (OpenSpec.ofChange printBackSpec)) printBackCard

/-- THE TIED CARD OF 'concordatlaw08.PrintOrder'. -/
def printOrderCard : Claim7 := { stood := { row := printOrderRow, standIns := [], harness := (true, "aa61220985ba286beb24ed013ec06de46eedd460ce2ea34b63651cbdcfb4b031"), looks := false }, kinds := [], alts := [], laidByText := true, laidKinds := [.data, .data, .data, .data, .pinned], laidTests := true, laidLooks := .later }
def PrintOrderCardSaid : Prop := Claim7.holds Tryz.pinned (.plain (OpenSpec.ofChange printOrderSpec)) printOrderCard

/-- THE TIED CARD OF 'concordatlaw08.PrintCanon'. -/
def printCanonCard : Claim7 := { stood := { row := printCanonRow, standIns := [], harness := (true, "aa61220985ba286beb24ed013ec06de46eedd460ce2ea34b63651cbdcfb4b031"), looks := false }, kinds := [], alts := [], laidByText := true, laidKinds := [.data, .data, .data, .data, .pinned], laidTests := true, laidLooks := .later }
def PrintCanonCardSaid : Prop := Claim7.holds Tryz.pinned (.plain (OpenSpec.ofChange printCanonSpec)) printCanonCard

/-- THE TIED CARD OF 'concordatlaw08.PrintBlanks'. -/
def printBlanksCard : Claim7 := { stood := { row := printBlanksRow, standIns := [], harness := (true, "aa61220985ba286beb24ed013ec06de46eedd460ce2ea34b63651cbdcfb4b031"), looks := false }, kinds := [], alts := [], laidByText := true, laidKinds := [.data, .data, .data, .data, .pinned], laidTests := true, laidLooks := .later }
def PrintBlanksCardSaid : Prop := Claim7.holds Tryz.pinned (.plain (OpenSpec.ofChange printBlanksSpec)) printBlanksCard

/-- THE SECOND FORM's CARD OF 'concordatlaw08.PrintAll'. -/
def printAllUptoCard : Claim7 := { stood := { row := printAllUptoRow, standIns := [], harness := (true, "aa61220985ba286beb24ed013ec06de46eedd460ce2ea34b63651cbdcfb4b031"), looks := false }, kinds := [], alts := [], laidByText := true, laidKinds := [.data, .data, .data, .data, .pinned], laidTests := true, laidLooks := .later }
def PrintAllUptoCardSaid : Prop := Claim7.holds Tryz.pinned (.plain (OpenSpec.upto printAllSpec)) printAllUptoCard

/-- THE SECOND FORM's CARD OF 'concordatlaw08.PrintReads'. -/
def printReadsUptoCard : Claim7 := { stood := { row := printReadsUptoRow, standIns := [], harness := (true, "aa61220985ba286beb24ed013ec06de46eedd460ce2ea34b63651cbdcfb4b031"), looks := false }, kinds := [], alts := [], laidByText := true, laidKinds := [.data, .data, .data, .data, .pinned], laidTests := true, laidLooks := .later }
def PrintReadsUptoCardSaid : Prop := Claim7.holds Tryz.pinned (.plain (OpenSpec.upto printReadsSpec)) printReadsUptoCard

/-- THE SECOND FORM's CARD OF 'concordatlaw08.PrintBack'. -/
def printBackUptoCard : Claim7 := { stood := { row := printBackUptoRow, standIns := [], harness := (true, "aa61220985ba286beb24ed013ec06de46eedd460ce2ea34b63651cbdcfb4b031"), looks := false }, kinds := [], alts := [], laidByText := true, laidKinds := [.data, .data, .data, .data, .pinned], laidTests := true, laidLooks := .later }
def PrintBackUptoCardSaid : Prop := Claim7.holds Tryz.pinned (.plain (OpenSpec.upto printBackSpec)) printBackUptoCard

/-- THE SECOND FORM's CARD OF 'concordatlaw08.PrintOrder'. -/
def printOrderUptoCard : Claim7 := { stood := { row := printOrderUptoRow, standIns := [], harness := (true, "aa61220985ba286beb24ed013ec06de46eedd460ce2ea34b63651cbdcfb4b031"), looks := false }, kinds := [], alts := [], laidByText := true, laidKinds := [.data, .data, .data, .data, .pinned], laidTests := true, laidLooks := .later }
def PrintOrderUptoCardSaid : Prop := Claim7.holds Tryz.pinned (.plain (OpenSpec.upto printOrderSpec)) printOrderUptoCard

/-- THE SECOND FORM's CARD OF 'concordatlaw08.PrintCanon'. -/
def printCanonUptoCard : Claim7 := { stood := { row := printCanonUptoRow, standIns := [], harness := (true, "aa61220985ba286beb24ed013ec06de46eedd460ce2ea34b63651cbdcfb4b031"), looks := false }, kinds := [], alts := [], laidByText := true, laidKinds := [.data, .data, .data, .data, .pinned], laidTests := true, laidLooks := .later }
def PrintCanonUptoCardSaid : Prop := Claim7.holds Tryz.pinned (.plain (OpenSpec.upto printCanonSpec)) printCanonUptoCard

/-- THE SECOND FORM's CARD OF 'concordatlaw08.PrintBlanks'. -/
def printBlanksUptoCard : Claim7 := { stood := { row := printBlanksUptoRow, standIns := [], harness := (true, "aa61220985ba286beb24ed013ec06de46eedd460ce2ea34b63651cbdcfb4b031"), looks := false }, kinds := [], alts := [], laidByText := true, laidKinds := [.data, .data, .data, .data, .pinned], laidTests := true, laidLooks := .later }
def PrintBlanksUptoCardSaid : Prop := Claim7.holds Tryz.pinned (.plain (OpenSpec.upto printBlanksSpec)) printBlanksUptoCard
end Rows
end Go.Proofs.YtkpgaccgcdoijaaGreatDoor
