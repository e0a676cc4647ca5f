/-
  DERIVED. GIVEN WITH THE SEED: THE CARDS: each row of YtdlpmbghocabbaaGreatDoorRows.lean that lists a variable, with what it lists TIED to the program's text (the seventh form; the later family's looks); each row that meets fmt, with fmt's text TOLD by the authors' own Lean function (tested against real Go, not proved from fmt's source: count such statements apart). THE CARD IS WHAT COUNTS. Prove the row's statement (the work); the ties are given (YtdlpmbghocabbaaGreatDoorTie.lean); close each card by the builder's one call (the guide's Derived/Test/ToyasCard.lean, 'card_holds'). Laid BY PROGRAM, IN A SANDBOX (cutbox-door.mjs). By AI agents, Wed Nov 11 2026. No macro, syntax, notation, axiom, sorry.
-/
import Derived.Test.YtdlpmbghocabbaaGreatDoorRows
import GoSem.ClaimSeven
namespace Go.Proofs.YtdlpmbghocabbaaGreatDoor
namespace Rows

/-- THE TIED CARD OF 'anvillaw12.ExecCalls'. -/
def execCallsCard : Claim7 := { stood := { row := execCallsRow, standIns := [], harness := (true, "2f5aede458f1a643633ce60e0da4ccdd864c4971de08702014a9adbc9d419f90"), looks := true }, kinds := [], alts := [], laidByText := true, laidKinds := [.data], laidTests := true, laidLooks := .later }
def ExecCallsCardSaid : Prop := Claim7.holds Tryz.pinned (.plain (OpenSpec.ofChange execCallsSpec)) execCallsCard

/-- THE TIED CARD OF 'anvillaw16.SaveBack'. -/
def saveBackCard : Claim7 := { stood := { row := saveBackRow, standIns := [], harness := (true, "2f5aede458f1a643633ce60e0da4ccdd864c4971de08702014a9adbc9d419f90"), looks := true }, kinds := [], alts := [], laidByText := true, laidKinds := [.data], laidTests := true, laidLooks := .later }
def SaveBackCardSaid : Prop := Claim7.holds Tryz.pinned (.plain (OpenSpec.ofChange saveBackSpec)) saveBackCard

/-- THE TIED CARD OF 'anvillaw16.SaveAgain'. -/
def saveAgainCard : Claim7 := { stood := { row := saveAgainRow, standIns := [], harness := (true, "2f5aede458f1a643633ce60e0da4ccdd864c4971de08702014a9adbc9d419f90"), looks := true }, kinds := [], alts := [], laidByText := true, laidKinds := [.data], laidTests := true, laidLooks := .later }
def SaveAgainCardSaid : Prop := Claim7.holds Tryz.pinned (.plain (OpenSpec.ofChange saveAgainSpec)) saveAgainCard

/-- THE TIED CARD OF 'anvillaw16.SaveTold'. -/
def saveToldCard : Claim7 := { stood := { row := saveToldRow, standIns := [], harness := (true, "2f5aede458f1a643633ce60e0da4ccdd864c4971de08702014a9adbc9d419f90"), looks := true }, kinds := [], alts := [], laidByText := true, laidKinds := [.data], laidTests := true, laidLooks := .later }
def SaveToldCardSaid : Prop := Claim7.holds Tryz.pinned (.plain (OpenSpec.ofChange saveToldSpec)) saveToldCard

/-- THE TIED CARD OF 'anvillaw16.SaveApart'. -/
def saveApartCard : Claim7 := { stood := { row := saveApartRow, standIns := [], harness := (true, "2f5aede458f1a643633ce60e0da4ccdd864c4971de08702014a9adbc9d419f90"), looks := true }, kinds := [], alts := [], laidByText := true, laidKinds := [.data], laidTests := true, laidLooks := .later }
def SaveApartCardSaid : Prop := Claim7.holds Tryz.pinned (.plain (OpenSpec.ofChange saveApartSpec)) saveApartCard

/-- THE TIED CARD OF 'anvillaw16.SaveOwn'. -/
def saveOwnCard : Claim7 := { stood := { row := saveOwnRow, standIns := [], harness := (true, "2f5aede458f1a643633ce60e0da4ccdd864c4971de08702014a9adbc9d419f90"), looks := true }, kinds := [], alts := [], laidByText := true, laidKinds := [.data], laidTests := true, laidLooks := .later }
def SaveOwnCardSaid : Prop := Claim7.holds Tryz.pinned (.plain (OpenSpec.ofChange saveOwnSpec)) saveOwnCard

/-- THE SECOND FORM's CARD OF 'anvillaw12.ExecCalls'. -/
def execCallsUptoCard : Claim7 := { stood := { row := execCallsUptoRow, standIns := [], harness := (true, "2f5aede458f1a643633ce60e0da4ccdd864c4971de08702014a9adbc9d419f90"), looks := true }, kinds := [], alts := [], laidByText := true, laidKinds := [.data], laidTests := true, laidLooks := .later }
def ExecCallsUptoCardSaid : Prop := Claim7.holds Tryz.pinned (.plain (OpenSpec.upto execCallsSpec)) execCallsUptoCard

/-- THE SECOND FORM's CARD OF 'anvillaw16.SaveBack'. -/
def saveBackUptoCard : Claim7 := { stood := { row := saveBackUptoRow, standIns := [], harness := (true, "2f5aede458f1a643633ce60e0da4ccdd864c4971de08702014a9adbc9d419f90"), looks := true }, kinds := [], alts := [], laidByText := true, laidKinds := [.data], laidTests := true, laidLooks := .later }
def SaveBackUptoCardSaid : Prop := Claim7.holds Tryz.pinned (.plain (OpenSpec.upto saveBackSpec)) saveBackUptoCard

/-- THE SECOND FORM's CARD OF 'anvillaw16.SaveAgain'. -/
def saveAgainUptoCard : Claim7 := { stood := { row := saveAgainUptoRow, standIns := [], harness := (true, "2f5aede458f1a643633ce60e0da4ccdd864c4971de08702014a9adbc9d419f90"), looks := true }, kinds := [], alts := [], laidByText := true, laidKinds := [.data], laidTests := true, laidLooks := .later }
def SaveAgainUptoCardSaid : Prop := Claim7.holds Tryz.pinned (.plain (OpenSpec.upto saveAgainSpec)) saveAgainUptoCard

/-- THE SECOND FORM's CARD OF 'anvillaw16.SaveTold'. -/
def saveToldUptoCard : Claim7 := { stood := { row := saveToldUptoRow, standIns := [], harness := (true, "2f5aede458f1a643633ce60e0da4ccdd864c4971de08702014a9adbc9d419f90"), looks := true }, kinds := [], alts := [], laidByText := true, laidKinds := [.data], laidTests := true, laidLooks := .later }
def SaveToldUptoCardSaid : Prop := Claim7.holds Tryz.pinned (.plain (OpenSpec.upto saveToldSpec)) saveToldUptoCard

/-- THE SECOND FORM's CARD OF 'anvillaw16.SaveApart'. -/
def saveApartUptoCard : Claim7 := { stood := { row := saveApartUptoRow, standIns := [], harness := (true, "2f5aede458f1a643633ce60e0da4ccdd864c4971de08702014a9adbc9d419f90"), looks := true }, kinds := [], alts := [], laidByText := true, laidKinds := [.data], laidTests := true, laidLooks := .later }
def SaveApartUptoCardSaid : Prop := Claim7.holds Tryz.pinned (.plain (OpenSpec.upto saveApartSpec)) saveApartUptoCard

/-- THE SECOND FORM's CARD OF 'anvillaw16.SaveOwn'. -/
def saveOwnUptoCard : Claim7 := { stood := { row := saveOwnUptoRow, standIns := [], harness := (true, "2f5aede458f1a643633ce60e0da4ccdd864c4971de08702014a9adbc9d419f90"), looks := true }, kinds := [], alts := [], laidByText := true, laidKinds := [.data], laidTests := true, laidLooks := .later }
def SaveOwnUptoCardSaid : Prop := Claim7.holds Tryz.pinned (.plain (OpenSpec.upto saveOwnSpec)) saveOwnUptoCard
end Rows
end Go.Proofs.YtdlpmbghocabbaaGreatDoor
