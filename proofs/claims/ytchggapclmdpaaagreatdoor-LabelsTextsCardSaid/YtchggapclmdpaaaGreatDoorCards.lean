/-
  DERIVED. GIVEN WITH THE SEED: THE CARDS: each row of YtchggapclmdpaaaGreatDoorRows.lean that lists a variable, with what it lists TIED to the program's text (the seventh form; the later family's looks); each row that meets fmt, with fmt's text TOLD by the authors' own Lean function (tested against real Go, not proved from fmt's source: count such statements apart). THE CARD IS WHAT COUNTS. Prove the row's statement (the work); the ties are given (YtchggapclmdpaaaGreatDoorTie.lean); close each card by the builder's one call (the guide's Derived/Test/ToyasCard.lean, 'card_holds'). Laid BY PROGRAM, IN A SANDBOX (cutbox-door.mjs). By AI agents, Wed Nov 11 2026. No macro, syntax, notation, axiom, sorry.
-/
import Derived.Test.YtchggapclmdpaaaGreatDoorRows
import GoSem.ClaimSeven
namespace Go.Proofs.YtchggapclmdpaaaGreatDoor
namespace Rows

/-- THE TIED CARD OF 'barographlaw07.LabelsTexts'. -/
def labelsTextsCard : Claim7 := { stood := { row := labelsTextsRow, standIns := [], harness := (true, "01073a03e6cda9e79faccb1c1524215d36dacb2fdd3889b8c2ccffd8f7565bbb"), looks := true }, kinds := [], alts := [], laidByText := true, laidKinds := [.data, .handle, .sentinel, .sentinel, .pinned], laidTests := true, laidLooks := .later }
def LabelsTextsCardSaid : Prop := Claim7.holds Tryz.pinned (.plain (OpenSpec.ofChange labelsTextsSpec)) labelsTextsCard

/-- THE TIED CARD OF 'barographlaw07.LabelsSets'. -/
def labelsSetsCard : Claim7 := { stood := { row := labelsSetsRow, standIns := [], harness := (true, "01073a03e6cda9e79faccb1c1524215d36dacb2fdd3889b8c2ccffd8f7565bbb"), looks := true }, kinds := [], alts := [], laidByText := true, laidKinds := [.data, .handle, .sentinel, .sentinel, .pinned], laidTests := true, laidLooks := .later }
def LabelsSetsCardSaid : Prop := Claim7.holds Tryz.pinned (.plain (OpenSpec.ofChange labelsSetsSpec)) labelsSetsCard

/-- THE TIED CARD OF 'barographlaw07.LabelsOrder'. -/
def labelsOrderCard : Claim7 := { stood := { row := labelsOrderRow, standIns := [], harness := (true, "01073a03e6cda9e79faccb1c1524215d36dacb2fdd3889b8c2ccffd8f7565bbb"), looks := true }, kinds := [], alts := [], laidByText := true, laidKinds := [.data, .handle, .sentinel, .sentinel, .pinned], laidTests := true, laidLooks := .later }
def LabelsOrderCardSaid : Prop := Claim7.holds Tryz.pinned (.plain (OpenSpec.ofChange labelsOrderSpec)) labelsOrderCard

/-- THE TIED CARD OF 'barographlaw07.LabelsBytes'. -/
def labelsBytesCard : Claim7 := { stood := { row := labelsBytesRow, standIns := [], harness := (true, "01073a03e6cda9e79faccb1c1524215d36dacb2fdd3889b8c2ccffd8f7565bbb"), looks := true }, kinds := [], alts := [], laidByText := true, laidKinds := [.data, .handle, .sentinel, .sentinel, .pinned], laidTests := true, laidLooks := .later }
def LabelsBytesCardSaid : Prop := Claim7.holds Tryz.pinned (.plain (OpenSpec.ofChange labelsBytesSpec)) labelsBytesCard

/-- THE TIED CARD OF 'barographlaw07.LabelsBack'. -/
def labelsBackCard : Claim7 := { stood := { row := labelsBackRow, standIns := [], harness := (true, "01073a03e6cda9e79faccb1c1524215d36dacb2fdd3889b8c2ccffd8f7565bbb"), looks := true }, kinds := [], alts := [], laidByText := true, laidKinds := [.data, .handle, .sentinel, .sentinel, .pinned], laidTests := true, laidLooks := .later }
def LabelsBackCardSaid : Prop := Claim7.holds Tryz.pinned (.plain (OpenSpec.ofChange labelsBackSpec)) labelsBackCard

/-- THE TIED CARD OF 'barographlaw07.LabelsTurns'. -/
def labelsTurnsCard : Claim7 := { stood := { row := labelsTurnsRow, standIns := [], harness := (true, "01073a03e6cda9e79faccb1c1524215d36dacb2fdd3889b8c2ccffd8f7565bbb"), looks := true }, kinds := [], alts := [], laidByText := true, laidKinds := [.data, .handle, .sentinel, .sentinel, .pinned], laidTests := true, laidLooks := .later }
def LabelsTurnsCardSaid : Prop := Claim7.holds Tryz.pinned (.plain (OpenSpec.ofChange labelsTurnsSpec)) labelsTurnsCard

/-- THE SECOND FORM's CARD OF 'barographlaw07.LabelsTexts'. -/
def labelsTextsUptoCard : Claim7 := { stood := { row := labelsTextsUptoRow, standIns := [], harness := (true, "01073a03e6cda9e79faccb1c1524215d36dacb2fdd3889b8c2ccffd8f7565bbb"), looks := true }, kinds := [], alts := [], laidByText := true, laidKinds := [.data, .handle, .sentinel, .sentinel, .pinned], laidTests := true, laidLooks := .later }
def LabelsTextsUptoCardSaid : Prop := Claim7.holds Tryz.pinned (.plain (OpenSpec.upto labelsTextsSpec)) labelsTextsUptoCard

/-- THE SECOND FORM's CARD OF 'barographlaw07.LabelsSets'. -/
def labelsSetsUptoCard : Claim7 := { stood := { row := labelsSetsUptoRow, standIns := [], harness := (true, "01073a03e6cda9e79faccb1c1524215d36dacb2fdd3889b8c2ccffd8f7565bbb"), looks := true }, kinds := [], alts := [], laidByText := true, laidKinds := [.data, .handle, .sentinel, .sentinel, .pinned], laidTests := true, laidLooks := .later }
def LabelsSetsUptoCardSaid : Prop := Claim7.holds Tryz.pinned (.plain (OpenSpec.upto labelsSetsSpec)) labelsSetsUptoCard

/-- THE SECOND FORM's CARD OF 'barographlaw07.LabelsOrder'. -/
def labelsOrderUptoCard : Claim7 := { stood := { row := labelsOrderUptoRow, standIns := [], harness := (true, "01073a03e6cda9e79faccb1c1524215d36dacb2fdd3889b8c2ccffd8f7565bbb"), looks := true }, kinds := [], alts := [], laidByText := true, laidKinds := [.data, .handle, .sentinel, .sentinel, .pinned], laidTests := true, laidLooks := .later }
def LabelsOrderUptoCardSaid : Prop := Claim7.holds Tryz.pinned (.plain (OpenSpec.upto labelsOrderSpec)) labelsOrderUptoCard

/-- THE SECOND FORM's CARD OF 'barographlaw07.LabelsBytes'. -/
def labelsBytesUptoCard : Claim7 := { stood := { row := labelsBytesUptoRow, standIns := [], harness := (true, "01073a03e6cda9e79faccb1c1524215d36dacb2fdd3889b8c2ccffd8f7565bbb"), looks := true }, kinds := [], alts := [], laidByText := true, laidKinds := [.data, .handle, .sentinel, .sentinel, .pinned], laidTests := true, laidLooks := .later }
def LabelsBytesUptoCardSaid : Prop := Claim7.holds Tryz.pinned (.plain (OpenSpec.upto labelsBytesSpec)) labelsBytesUptoCard

/-- THE SECOND FORM's CARD OF 'barographlaw07.LabelsBack'. -/
def labelsBackUptoCard : Claim7 := { stood := { row := labelsBackUptoRow, standIns := [], harness := (true, "01073a03e6cda9e79faccb1c1524215d36dacb2fdd3889b8c2ccffd8f7565bbb"), looks := true }, kinds := [], alts := [], laidByText := true, laidKinds := [.data, .handle, .sentinel, .sentinel, .pinned], laidTests := true, laidLooks := .later }
def LabelsBackUptoCardSaid : Prop := Claim7.holds Tryz.pinned (.plain (OpenSpec.upto labelsBackSpec)) labelsBackUptoCard

/-- THE SECOND FORM's CARD OF 'barographlaw07.LabelsTurns'. -/
def labelsTurnsUptoCard : Claim7 := { stood := { row := labelsTurnsUptoRow, standIns := [], harness := (true, "01073a03e6cda9e79faccb1c1524215d36dacb2fdd3889b8c2ccffd8f7565bbb"), looks := true }, kinds := [], alts := [], laidByText := true, laidKinds := [.data, .handle, .sentinel, .sentinel, .pinned], laidTests := true, laidLooks := .later }
def LabelsTurnsUptoCardSaid : Prop := Claim7.holds Tryz.pinned (.plain (OpenSpec.upto labelsTurnsSpec)) labelsTurnsUptoCard
end Rows
end Go.Proofs.YtchggapclmdpaaaGreatDoor
