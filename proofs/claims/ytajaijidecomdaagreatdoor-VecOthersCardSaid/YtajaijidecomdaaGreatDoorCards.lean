/-
  DERIVED. GIVEN WITH THE SEED: THE CARDS: each row of YtajaijidecomdaaGreatDoorRows.lean that lists a variable, with what it lists TIED to the program's text (the seventh form; the later family's looks); each row that meets fmt, with fmt's text TOLD by the authors' own Lean function (tested against real Go, not proved from fmt's source: count such statements apart). THE CARD IS WHAT COUNTS. Prove the row's statement (the work); the ties are given (YtajaijidecomdaaGreatDoorTie.lean); close each card by the builder's one call (the guide's Derived/Test/ToyasCard.lean, 'card_holds'). Laid BY PROGRAM, IN A SANDBOX (cutbox-door.mjs). By AI agents, Wed Nov 11 2026. No macro, syntax, notation, axiom, sorry.
-/
import Derived.Test.YtajaijidecomdaaGreatDoorRows
import GoSem.ClaimSeven
namespace Go.Proofs.YtajaijidecomdaaGreatDoor
namespace Rows

/-- THE TIED CARD OF 'barographlaw25.VecNumbers'. -/
def vecNumbersCard : Claim7 := { stood := { row := vecNumbersRow, standIns := [], harness := (true, "870f2a71f65e6923abf16c26784592e6c1f01f491fef11aa812794cd18fc66dc"), looks := false }, kinds := [], alts := [], laidByText := true, laidKinds := [.data, .data, .pinned], laidTests := true, laidLooks := .later }
def VecNumbersCardSaid : Prop := Claim7.holds Tryz.pinned (.plain (OpenSpec.ofChange vecNumbersSpec)) vecNumbersCard

/-- THE TIED CARD OF 'barographlaw25.VecNumber'. -/
def vecNumberCard : Claim7 := { stood := { row := vecNumberRow, standIns := [], harness := (true, "870f2a71f65e6923abf16c26784592e6c1f01f491fef11aa812794cd18fc66dc"), looks := false }, kinds := [], alts := [], laidByText := true, laidKinds := [.data, .data, .pinned], laidTests := true, laidLooks := .later }
def VecNumberCardSaid : Prop := Claim7.holds Tryz.pinned (.plain (OpenSpec.ofChange vecNumberSpec)) vecNumberCard

/-- THE TIED CARD OF 'barographlaw25.VecVectors'. -/
def vecVectorsCard : Claim7 := { stood := { row := vecVectorsRow, standIns := [], harness := (true, "870f2a71f65e6923abf16c26784592e6c1f01f491fef11aa812794cd18fc66dc"), looks := false }, kinds := [], alts := [], laidByText := true, laidKinds := [.data, .data, .pinned], laidTests := true, laidLooks := .later }
def VecVectorsCardSaid : Prop := Claim7.holds Tryz.pinned (.plain (OpenSpec.ofChange vecVectorsSpec)) vecVectorsCard

/-- THE TIED CARD OF 'barographlaw25.VecParts'. -/
def vecPartsCard : Claim7 := { stood := { row := vecPartsRow, standIns := [], harness := (true, "870f2a71f65e6923abf16c26784592e6c1f01f491fef11aa812794cd18fc66dc"), looks := false }, kinds := [], alts := [], laidByText := true, laidKinds := [.data, .data, .pinned], laidTests := true, laidLooks := .later }
def VecPartsCardSaid : Prop := Claim7.holds Tryz.pinned (.plain (OpenSpec.ofChange vecPartsSpec)) vecPartsCard

/-- THE TIED CARD OF 'barographlaw25.VecTurned'. -/
def vecTurnedCard : Claim7 := { stood := { row := vecTurnedRow, standIns := [], harness := (true, "870f2a71f65e6923abf16c26784592e6c1f01f491fef11aa812794cd18fc66dc"), looks := false }, kinds := [], alts := [], laidByText := true, laidKinds := [.data, .data, .pinned], laidTests := true, laidLooks := .later }
def VecTurnedCardSaid : Prop := Claim7.holds Tryz.pinned (.plain (OpenSpec.ofChange vecTurnedSpec)) vecTurnedCard

/-- THE TIED CARD OF 'barographlaw25.VecFilters'. -/
def vecFiltersCard : Claim7 := { stood := { row := vecFiltersRow, standIns := [], harness := (true, "870f2a71f65e6923abf16c26784592e6c1f01f491fef11aa812794cd18fc66dc"), looks := false }, kinds := [], alts := [], laidByText := true, laidKinds := [.data, .data, .pinned], laidTests := true, laidLooks := .later }
def VecFiltersCardSaid : Prop := Claim7.holds Tryz.pinned (.plain (OpenSpec.ofChange vecFiltersSpec)) vecFiltersCard

/-- THE TIED CARD OF 'barographlaw25.VecOthers'. -/
def vecOthersCard : Claim7 := { stood := { row := vecOthersRow, standIns := [], harness := (true, "870f2a71f65e6923abf16c26784592e6c1f01f491fef11aa812794cd18fc66dc"), looks := false }, kinds := [], alts := [], laidByText := true, laidKinds := [.data, .data, .pinned], laidTests := true, laidLooks := .later }
def VecOthersCardSaid : Prop := Claim7.holds Tryz.pinned (.plain (OpenSpec.ofChange vecOthersSpec)) vecOthersCard

/-- THE SECOND FORM's CARD OF 'barographlaw25.VecNumbers'. -/
def vecNumbersUptoCard : Claim7 := { stood := { row := vecNumbersUptoRow, standIns := [], harness := (true, "870f2a71f65e6923abf16c26784592e6c1f01f491fef11aa812794cd18fc66dc"), looks := false }, kinds := [], alts := [], laidByText := true, laidKinds := [.data, .data, .pinned], laidTests := true, laidLooks := .later }
def VecNumbersUptoCardSaid : Prop := Claim7.holds Tryz.pinned (.plain (OpenSpec.upto vecNumbersSpec)) vecNumbersUptoCard

/-- THE SECOND FORM's CARD OF 'barographlaw25.VecNumber'. -/
def vecNumberUptoCard : Claim7 := { stood := { row := vecNumberUptoRow, standIns := [], harness := (true, "870f2a71f65e6923abf16c26784592e6c1f01f491fef11aa812794cd18fc66dc"), looks := false }, kinds := [], alts := [], laidByText := true, laidKinds := [.data, .data, .pinned], laidTests := true, laidLooks := .later }
def VecNumberUptoCardSaid : Prop := Claim7.holds Tryz.pinned (.plain (OpenSpec.upto vecNumberSpec)) vecNumberUptoCard

/-- THE SECOND FORM's CARD OF 'barographlaw25.VecVectors'. -/
def vecVectorsUptoCard : Claim7 := { stood := { row := vecVectorsUptoRow, standIns := [], harness := (true, "870f2a71f65e6923abf16c26784592e6c1f01f491fef11aa812794cd18fc66dc"), looks := false }, kinds := [], alts := [], laidByText := true, laidKinds := [.data, .data, .pinned], laidTests := true, laidLooks := .later }
def VecVectorsUptoCardSaid : Prop := Claim7.holds Tryz.pinned (.plain (OpenSpec.upto vecVectorsSpec)) vecVectorsUptoCard

/-- THE SECOND FORM's CARD OF 'barographlaw25.VecParts'. -/
def vecPartsUptoCard : Claim7 := { stood := { row := vecPartsUptoRow, standIns := [], harness := (true, "870f2a71f65e6923abf16c26784592e6c1f01f491fef11aa812794cd18fc66dc"), looks := false }, kinds := [], alts := [], laidByText := true, laidKinds := [.data, .data, .pinned], laidTests := true, laidLooks := .later }
def VecPartsUptoCardSaid : Prop := Claim7.holds Tryz.pinned (.plain (OpenSpec.upto vecPartsSpec)) vecPartsUptoCard

/-- THE SECOND FORM's CARD OF 'barographlaw25.VecTurned'. -/
def vecTurnedUptoCard : Claim7 := { stood := { row := vecTurnedUptoRow, standIns := [], harness := (true, "870f2a71f65e6923abf16c26784592e6c1f01f491fef11aa812794cd18fc66dc"), looks := false }, kinds := [], alts := [], laidByText := true, laidKinds := [.data, .data, .pinned], laidTests := true, laidLooks := .later }
def VecTurnedUptoCardSaid : Prop := Claim7.holds Tryz.pinned (.plain (OpenSpec.upto vecTurnedSpec)) vecTurnedUptoCard

/-- THE SECOND FORM's CARD OF 'barographlaw25.VecFilters'. -/
def vecFiltersUptoCard : Claim7 := { stood := { row := vecFiltersUptoRow, standIns := [], harness := (true, "870f2a71f65e6923abf16c26784592e6c1f01f491fef11aa812794cd18fc66dc"), looks := false }, kinds := [], alts := [], laidByText := true, laidKinds := [.data, .data, .pinned], laidTests := true, laidLooks := .later }
def VecFiltersUptoCardSaid : Prop := Claim7.holds Tryz.pinned (.plain (OpenSpec.upto vecFiltersSpec)) vecFiltersUptoCard

/-- THE SECOND FORM's CARD OF 'barographlaw25.VecOthers'. -/
def vecOthersUptoCard : Claim7 := { stood := { row := vecOthersUptoRow, standIns := [], harness := (true, "870f2a71f65e6923abf16c26784592e6c1f01f491fef11aa812794cd18fc66dc"), looks := false }, kinds := [], alts := [], laidByText := true, laidKinds := [.data, .data, .pinned], laidTests := true, laidLooks := .later }
def VecOthersUptoCardSaid : Prop := Claim7.holds Tryz.pinned (.plain (OpenSpec.upto vecOthersSpec)) vecOthersUptoCard
end Rows
end Go.Proofs.YtajaijidecomdaaGreatDoor
