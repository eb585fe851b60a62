/-
  NARROWER THAN 'FOR EVERY INPUT', by the rows' own cells (each row's printed sentence says how): LabelsTexts: laid · LabelsSets: laid · LabelsOrder: laid · LabelsBytes: laid · LabelsBack: laid · LabelsTurns: laid.
  DERIVED. THE GIVEN ROWS OF THIS SEAT. 6 by the template 'for every input the law returns true; each argument reads behind the call as it read before'; 0 by the template 'total and deterministic' (their statements: YtchggapclmdpaaaGreatDoorTotals.lean).
  GIVEN WITH THE SEED: the statements are not yours to turn. If you find one false, say at which input.
  Laid BY PROGRAM, IN A SANDBOX (cutbox-rows.mjs): the forced cells as the released guide's own fill.sh prints them over the translation 82b5b4ef0a4ffba2… (all of the seat's roots in one cut). By AI agents, Wed Nov 11 2026. No macro, syntax, notation, axiom, sorry.
-/
import Derived.Test.YtchggapclmdpaaaGreatDoorChecked
import GoSem.PinnedTables
import GoSem.Claim
import GoSem.ClaimJoined
import GoSem.ClaimMapViews
import Derived.JoinedTies
import Derived.KernelRfl
namespace Go.Proofs.YtchggapclmdpaaaGreatDoor
/- THE CELL 'sum', in the pinned program and in every row, IS THE sha256 OF THE DUMP (.gsa) THAT YtchggapclmdpaaaGreatDoorProg.lean LOADS. Nothing in Lean hashes anything: it is a label: what it is worth is what the hold of that sum in a sandbox is worth. -/
noncomputable def Tryz.pinned : Pinned := { name := "ytchggapclmdpaaagreatdoor", sum := "82b5b4ef0a4ffba2365e9f95cf3f1125bbb4a1f31cf87d853795de534400bc9d", checked := Tryz.checked }
namespace Rows
def none {H : Type} : Left H := { results := [], args := [] }

/- WHAT THE LISTED PACKAGE-LEVEL VARIABLES READ AS WHEN THE CALL BEGINS. Each datum BY PROGRAM (the guide's laid-datum.mjs) off the statement by which the dump's own 'gosem.cut.vars' lays the variable. In a bare row this is a premise. The card (YtchggapclmdpaaaGreatDoorCards.lean) ties it to the program's text. -/
def laid_unicode_utf8_acceptRanges {H : Type} : DataW H := .agg [.agg [.lit (.int .u8 128), .lit (.int .u8 191)], .agg [.lit (.int .u8 160), .lit (.int .u8 191)], .agg [.lit (.int .u8 128), .lit (.int .u8 159)], .agg [.lit (.int .u8 144), .lit (.int .u8 191)], .agg [.lit (.int .u8 128), .lit (.int .u8 143)], .agg [.lit (.int .u8 0), .lit (.int .u8 0)], .agg [.lit (.int .u8 0), .lit (.int .u8 0)], .agg [.lit (.int .u8 0), .lit (.int .u8 0)], .agg [.lit (.int .u8 0), .lit (.int .u8 0)], .agg [.lit (.int .u8 0), .lit (.int .u8 0)], .agg [.lit (.int .u8 0), .lit (.int .u8 0)], .agg [.lit (.int .u8 0), .lit (.int .u8 0)], .agg [.lit (.int .u8 0), .lit (.int .u8 0)], .agg [.lit (.int .u8 0), .lit (.int .u8 0)], .agg [.lit (.int .u8 0), .lit (.int .u8 0)], .agg [.lit (.int .u8 0), .lit (.int .u8 0)]]
def laid_errors_errorType {H : Type} : DataW H := .iface "internal/reflectlite.rtype" (.agg [.ptr (.lit (.string [101, 114, 114, 111, 114]))])
def laid_barograph_text_errEscape {H : Type} : DataW H := .iface "*errors.errorString" (.ptr (.agg [.lit (.string [97, 110, 32, 101, 115, 99, 97, 112, 101, 32, 116, 104, 97, 116, 32, 105, 115, 32, 110, 111, 110, 101])]))
def laid_barograph_text_errEnd {H : Type} : DataW H := .iface "*errors.errorString" (.ptr (.agg [.lit (.string [116, 104, 101, 32, 101, 110, 100])]))
/-- One of Go's own tables, pinned by name: the form's constant. -/
def laid_unicode_utf8_first : DataW Unit := Go.Pinned.utf8First

/-- 'barographlaw07.LabelsTexts': WHATEVER THE INPUT: true; the input reads as it did. -/
def labelsTextsSpec : ChangeSpec := { name := "labelsTexts", fn := fun _ => fun
  | [d1, d2] => { results := [.lit (.bool true)], args := [d1, d2] }
  | _ => none }
def labelsTextsRow : OpenClaim := { program := "ytchggapclmdpaaagreatdoor", sum := "82b5b4ef0a4ffba2365e9f95cf3f1125bbb4a1f31cf87d853795de534400bc9d", func := "barograph/barographlaw07.LabelsTexts", spec := "labelsTexts", inPlace := ["internal/bytealg.IndexByteString", "internal/bytealg.IndexString", "internal/reflectlite.TypeOf", "internal/reflectlite.ValueOf", "(internal/reflectlite.Value).Type", "(internal/reflectlite.Value).IsNil", "(internal/reflectlite.Value).Elem", "(internal/reflectlite.Value).Set", "internal/abi.NoEscape", "internal/bytealg.MakeNoZero"], unfollowed := true, recurses := true, named := ["internal/bytealg.MaxLen", "unicode/utf8.first", "unicode/utf8.acceptRanges", "barograph/text.errEnd", "barograph/text.errEscape", "errors.errorType"], apart := false, laid := [("unicode/utf8.acceptRanges", laid_unicode_utf8_acceptRanges), ("errors.errorType", laid_errors_errorType), ("barograph/text.errEscape", laid_barograph_text_errEscape), ("barograph/text.errEnd", laid_barograph_text_errEnd), ("unicode/utf8.first", laid_unicode_utf8_first)] }
def LabelsTextsSaid : Prop := labelsTextsRow.holds Tryz.pinned (OpenSpec.ofChange labelsTextsSpec)

/-- ITS FALSE NEIGHBOUR: 'it returns false'. Refute it at one input. -/
def labelsTextsWrong : ChangeSpec := { name := "labelsTexts", fn := fun _ => fun
  | [d1, d2] => { results := [.lit (.bool false)], args := [d1, d2] }
  | _ => none }
def LabelsTextsWrongFalsely : Prop := labelsTextsRow.holds Tryz.pinned (OpenSpec.ofChange labelsTextsWrong)

/-- 'barographlaw07.LabelsSets': WHATEVER THE INPUT: true; the input reads as it did. -/
def labelsSetsSpec : ChangeSpec := { name := "labelsSets", fn := fun _ => fun
  | [d1, d2] => { results := [.lit (.bool true)], args := [d1, d2] }
  | _ => none }
def labelsSetsRow : OpenClaim := { program := "ytchggapclmdpaaagreatdoor", sum := "82b5b4ef0a4ffba2365e9f95cf3f1125bbb4a1f31cf87d853795de534400bc9d", func := "barograph/barographlaw07.LabelsSets", spec := "labelsSets", inPlace := ["internal/bytealg.IndexByteString", "internal/bytealg.IndexString", "internal/reflectlite.TypeOf", "internal/reflectlite.ValueOf", "(internal/reflectlite.Value).Type", "(internal/reflectlite.Value).IsNil", "(internal/reflectlite.Value).Elem", "(internal/reflectlite.Value).Set", "internal/abi.NoEscape", "internal/bytealg.MakeNoZero"], unfollowed := true, recurses := true, named := ["internal/bytealg.MaxLen", "unicode/utf8.first", "unicode/utf8.acceptRanges", "barograph/text.errEnd", "barograph/text.errEscape", "errors.errorType"], apart := false, laid := [("unicode/utf8.acceptRanges", laid_unicode_utf8_acceptRanges), ("errors.errorType", laid_errors_errorType), ("barograph/text.errEscape", laid_barograph_text_errEscape), ("barograph/text.errEnd", laid_barograph_text_errEnd), ("unicode/utf8.first", laid_unicode_utf8_first)] }
def LabelsSetsSaid : Prop := labelsSetsRow.holds Tryz.pinned (OpenSpec.ofChange labelsSetsSpec)

/-- ITS FALSE NEIGHBOUR: 'it returns false'. Refute it at one input. -/
def labelsSetsWrong : ChangeSpec := { name := "labelsSets", fn := fun _ => fun
  | [d1, d2] => { results := [.lit (.bool false)], args := [d1, d2] }
  | _ => none }
def LabelsSetsWrongFalsely : Prop := labelsSetsRow.holds Tryz.pinned (OpenSpec.ofChange labelsSetsWrong)

/-- 'barographlaw07.LabelsOrder': WHATEVER THE INPUT: true; the input reads as it did. -/
def labelsOrderSpec : ChangeSpec := { name := "labelsOrder", fn := fun _ => fun
  | [d1, d2, d3] => { results := [.lit (.bool true)], args := [d1, d2, d3] }
  | _ => none }
def labelsOrderRow : OpenClaim := { program := "ytchggapclmdpaaagreatdoor", sum := "82b5b4ef0a4ffba2365e9f95cf3f1125bbb4a1f31cf87d853795de534400bc9d", func := "barograph/barographlaw07.LabelsOrder", spec := "labelsOrder", inPlace := ["internal/bytealg.IndexByteString", "internal/bytealg.IndexString", "internal/reflectlite.TypeOf", "internal/reflectlite.ValueOf", "(internal/reflectlite.Value).Type", "(internal/reflectlite.Value).IsNil", "(internal/reflectlite.Value).Elem", "(internal/reflectlite.Value).Set", "internal/abi.NoEscape", "internal/bytealg.MakeNoZero"], unfollowed := true, recurses := true, named := ["internal/bytealg.MaxLen", "unicode/utf8.first", "unicode/utf8.acceptRanges", "barograph/text.errEnd", "barograph/text.errEscape", "errors.errorType"], apart := false, laid := [("unicode/utf8.acceptRanges", laid_unicode_utf8_acceptRanges), ("errors.errorType", laid_errors_errorType), ("barograph/text.errEscape", laid_barograph_text_errEscape), ("barograph/text.errEnd", laid_barograph_text_errEnd), ("unicode/utf8.first", laid_unicode_utf8_first)] }
def LabelsOrderSaid : Prop := labelsOrderRow.holds Tryz.pinned (OpenSpec.ofChange labelsOrderSpec)

/-- ITS FALSE NEIGHBOUR: 'it returns false'. Refute it at one input. -/
def labelsOrderWrong : ChangeSpec := { name := "labelsOrder", fn := fun _ => fun
  | [d1, d2, d3] => { results := [.lit (.bool false)], args := [d1, d2, d3] }
  | _ => none }
def LabelsOrderWrongFalsely : Prop := labelsOrderRow.holds Tryz.pinned (OpenSpec.ofChange labelsOrderWrong)

/-- 'barographlaw07.LabelsBytes': WHATEVER THE INPUT: true; the input reads as it did. -/
def labelsBytesSpec : ChangeSpec := { name := "labelsBytes", fn := fun _ => fun
  | [d1, d2] => { results := [.lit (.bool true)], args := [d1, d2] }
  | _ => none }
def labelsBytesRow : OpenClaim := { program := "ytchggapclmdpaaagreatdoor", sum := "82b5b4ef0a4ffba2365e9f95cf3f1125bbb4a1f31cf87d853795de534400bc9d", func := "barograph/barographlaw07.LabelsBytes", spec := "labelsBytes", inPlace := ["internal/bytealg.IndexByteString", "internal/bytealg.IndexString", "internal/reflectlite.TypeOf", "internal/reflectlite.ValueOf", "(internal/reflectlite.Value).Type", "(internal/reflectlite.Value).IsNil", "(internal/reflectlite.Value).Elem", "(internal/reflectlite.Value).Set", "internal/abi.NoEscape", "internal/bytealg.MakeNoZero"], unfollowed := true, recurses := true, named := ["internal/bytealg.MaxLen", "unicode/utf8.first", "unicode/utf8.acceptRanges", "barograph/text.errEnd", "barograph/text.errEscape", "errors.errorType"], apart := false, laid := [("unicode/utf8.acceptRanges", laid_unicode_utf8_acceptRanges), ("errors.errorType", laid_errors_errorType), ("barograph/text.errEscape", laid_barograph_text_errEscape), ("barograph/text.errEnd", laid_barograph_text_errEnd), ("unicode/utf8.first", laid_unicode_utf8_first)] }
def LabelsBytesSaid : Prop := labelsBytesRow.holds Tryz.pinned (OpenSpec.ofChange labelsBytesSpec)

/-- ITS FALSE NEIGHBOUR: 'it returns false'. Refute it at one input. -/
def labelsBytesWrong : ChangeSpec := { name := "labelsBytes", fn := fun _ => fun
  | [d1, d2] => { results := [.lit (.bool false)], args := [d1, d2] }
  | _ => none }
def LabelsBytesWrongFalsely : Prop := labelsBytesRow.holds Tryz.pinned (OpenSpec.ofChange labelsBytesWrong)

/-- 'barographlaw07.LabelsBack': WHATEVER THE INPUT: true; the input reads as it did. -/
def labelsBackSpec : ChangeSpec := { name := "labelsBack", fn := fun _ => fun
  | [d1, d2] => { results := [.lit (.bool true)], args := [d1, d2] }
  | _ => none }
def labelsBackRow : OpenClaim := { program := "ytchggapclmdpaaagreatdoor", sum := "82b5b4ef0a4ffba2365e9f95cf3f1125bbb4a1f31cf87d853795de534400bc9d", func := "barograph/barographlaw07.LabelsBack", spec := "labelsBack", inPlace := ["internal/bytealg.IndexByteString", "internal/bytealg.IndexString", "internal/reflectlite.TypeOf", "internal/reflectlite.ValueOf", "(internal/reflectlite.Value).Type", "(internal/reflectlite.Value).IsNil", "(internal/reflectlite.Value).Elem", "(internal/reflectlite.Value).Set", "internal/abi.NoEscape", "internal/bytealg.MakeNoZero"], unfollowed := true, recurses := true, named := ["internal/bytealg.MaxLen", "unicode/utf8.first", "unicode/utf8.acceptRanges", "barograph/text.errEnd", "barograph/text.errEscape", "errors.errorType"], apart := false, laid := [("unicode/utf8.acceptRanges", laid_unicode_utf8_acceptRanges), ("errors.errorType", laid_errors_errorType), ("barograph/text.errEscape", laid_barograph_text_errEscape), ("barograph/text.errEnd", laid_barograph_text_errEnd), ("unicode/utf8.first", laid_unicode_utf8_first)] }
def LabelsBackSaid : Prop := labelsBackRow.holds Tryz.pinned (OpenSpec.ofChange labelsBackSpec)

/-- ITS FALSE NEIGHBOUR: 'it returns false'. Refute it at one input. -/
def labelsBackWrong : ChangeSpec := { name := "labelsBack", fn := fun _ => fun
  | [d1, d2] => { results := [.lit (.bool false)], args := [d1, d2] }
  | _ => none }
def LabelsBackWrongFalsely : Prop := labelsBackRow.holds Tryz.pinned (OpenSpec.ofChange labelsBackWrong)

/-- 'barographlaw07.LabelsTurns': WHATEVER THE INPUT: true; the input reads as it did. -/
def labelsTurnsSpec : ChangeSpec := { name := "labelsTurns", fn := fun _ => fun
  | [d1, d2, d3, d4] => { results := [.lit (.bool true)], args := [d1, d2, d3, d4] }
  | _ => none }
def labelsTurnsRow : OpenClaim := { program := "ytchggapclmdpaaagreatdoor", sum := "82b5b4ef0a4ffba2365e9f95cf3f1125bbb4a1f31cf87d853795de534400bc9d", func := "barograph/barographlaw07.LabelsTurns", spec := "labelsTurns", inPlace := ["slices.overlaps[barograph/api.Label]", "internal/bytealg.IndexByteString", "internal/bytealg.IndexString", "internal/reflectlite.TypeOf", "internal/reflectlite.ValueOf", "(internal/reflectlite.Value).Type", "(internal/reflectlite.Value).IsNil", "(internal/reflectlite.Value).Elem", "(internal/reflectlite.Value).Set", "internal/abi.NoEscape", "internal/bytealg.MakeNoZero"], unfollowed := true, recurses := true, named := ["internal/bytealg.MaxLen", "unicode/utf8.first", "unicode/utf8.acceptRanges", "barograph/text.errEnd", "barograph/text.errEscape", "errors.errorType"], apart := false, laid := [("unicode/utf8.acceptRanges", laid_unicode_utf8_acceptRanges), ("errors.errorType", laid_errors_errorType), ("barograph/text.errEscape", laid_barograph_text_errEscape), ("barograph/text.errEnd", laid_barograph_text_errEnd), ("unicode/utf8.first", laid_unicode_utf8_first)] }
def LabelsTurnsSaid : Prop := labelsTurnsRow.holds Tryz.pinned (OpenSpec.ofChange labelsTurnsSpec)

/-- ITS FALSE NEIGHBOUR: 'it returns false'. Refute it at one input. -/
def labelsTurnsWrong : ChangeSpec := { name := "labelsTurns", fn := fun _ => fun
  | [d1, d2, d3, d4] => { results := [.lit (.bool false)], args := [d1, d2, d3, d4] }
  | _ => none }
def LabelsTurnsWrongFalsely : Prop := labelsTurnsRow.holds Tryz.pinned (OpenSpec.ofChange labelsTurnsWrong)

/- THE SECOND FORM. 'bulk': how many values and letters a reading holds, each counted each time it is reached (what is shared counts as often as it is met; a slice's spare places count too). A statement '..UptoSaid' is the law's where the arguments, and the package variables that the reading takes, are together of bulk at most 1048576: NARROWER than '..Said'. Prove '..Said' where nothing that the law and all that it calls make is longer than what came in: it says more and counts as full. Else prove '..UptoSaid'. A law counts once. -/
mutual
def uptoBulk {H : Type} : DataW H → Nat
  | .lit (.string bytes) => bytes.length + 1
  | .lit _ => 1
  | .nil => 1
  | .ptr d => uptoBulk d + 1
  | .slice elems spare => uptoBulkAll elems + uptoBulkAll spare + 1
  | .agg parts => uptoBulkAll parts + 1
  | .iface _ d => uptoBulk d + 1
  | .map entries => uptoBulkEntries entries + 1
  | .held _ => 1
def uptoBulkAll {H : Type} : List (DataW H) → Nat
  | [] => 0
  | d :: r => uptoBulk d + uptoBulkAll r
def uptoBulkEntries {H : Type} : List (Lit × DataW H) → Nat
  | [] => 0
  | x :: r => uptoBulkEntry x + uptoBulkEntries r
def uptoBulkEntry {H : Type} : Lit × DataW H → Nat
  | (.string bytes, d) => bytes.length + uptoBulk d + 1
  | (_, d) => uptoBulk d + 1
 end
def uptoSmall : (H : Type) → List (DataW H) → Bool := fun _ ds => decide (uptoBulkAll ds ≤ 1048576)
def OpenSpec.upto (s : _root_.Go.ChangeSpec) : _root_.Go.OpenSpec := { _root_.Go.OpenSpec.ofChange s with cond := some uptoSmall }

/-- 'barographlaw07.LabelsTexts', WHERE WHAT IT READS IS OF BULK AT MOST 1048576: true; the input reads as it did. -/
def labelsTextsUptoRow : OpenClaim := { program := "ytchggapclmdpaaagreatdoor", sum := "82b5b4ef0a4ffba2365e9f95cf3f1125bbb4a1f31cf87d853795de534400bc9d", func := "barograph/barographlaw07.LabelsTexts", spec := "labelsTexts", inPlace := ["internal/bytealg.IndexByteString", "internal/bytealg.IndexString", "internal/reflectlite.TypeOf", "internal/reflectlite.ValueOf", "(internal/reflectlite.Value).Type", "(internal/reflectlite.Value).IsNil", "(internal/reflectlite.Value).Elem", "(internal/reflectlite.Value).Set", "internal/abi.NoEscape", "internal/bytealg.MakeNoZero"], unfollowed := true, recurses := true, named := ["internal/bytealg.MaxLen", "unicode/utf8.first", "unicode/utf8.acceptRanges", "barograph/text.errEnd", "barograph/text.errEscape", "errors.errorType"], apart := false, laid := [("unicode/utf8.acceptRanges", laid_unicode_utf8_acceptRanges), ("errors.errorType", laid_errors_errorType), ("barograph/text.errEscape", laid_barograph_text_errEscape), ("barograph/text.errEnd", laid_barograph_text_errEnd), ("unicode/utf8.first", laid_unicode_utf8_first)], narrowed := true }
def LabelsTextsUptoSaid : Prop := labelsTextsUptoRow.holds Tryz.pinned (OpenSpec.upto labelsTextsSpec)

/-- 'barographlaw07.LabelsSets', WHERE WHAT IT READS IS OF BULK AT MOST 1048576: true; the input reads as it did. -/
def labelsSetsUptoRow : OpenClaim := { program := "ytchggapclmdpaaagreatdoor", sum := "82b5b4ef0a4ffba2365e9f95cf3f1125bbb4a1f31cf87d853795de534400bc9d", func := "barograph/barographlaw07.LabelsSets", spec := "labelsSets", inPlace := ["internal/bytealg.IndexByteString", "internal/bytealg.IndexString", "internal/reflectlite.TypeOf", "internal/reflectlite.ValueOf", "(internal/reflectlite.Value).Type", "(internal/reflectlite.Value).IsNil", "(internal/reflectlite.Value).Elem", "(internal/reflectlite.Value).Set", "internal/abi.NoEscape", "internal/bytealg.MakeNoZero"], unfollowed := true, recurses := true, named := ["internal/bytealg.MaxLen", "unicode/utf8.first", "unicode/utf8.acceptRanges", "barograph/text.errEnd", "barograph/text.errEscape", "errors.errorType"], apart := false, laid := [("unicode/utf8.acceptRanges", laid_unicode_utf8_acceptRanges), ("errors.errorType", laid_errors_errorType), ("barograph/text.errEscape", laid_barograph_text_errEscape), ("barograph/text.errEnd", laid_barograph_text_errEnd), ("unicode/utf8.first", laid_unicode_utf8_first)], narrowed := true }
def LabelsSetsUptoSaid : Prop := labelsSetsUptoRow.holds Tryz.pinned (OpenSpec.upto labelsSetsSpec)

/-- 'barographlaw07.LabelsOrder', WHERE WHAT IT READS IS OF BULK AT MOST 1048576: true; the input reads as it did. -/
def labelsOrderUptoRow : OpenClaim := { program := "ytchggapclmdpaaagreatdoor", sum := "82b5b4ef0a4ffba2365e9f95cf3f1125bbb4a1f31cf87d853795de534400bc9d", func := "barograph/barographlaw07.LabelsOrder", spec := "labelsOrder", inPlace := ["internal/bytealg.IndexByteString", "internal/bytealg.IndexString", "internal/reflectlite.TypeOf", "internal/reflectlite.ValueOf", "(internal/reflectlite.Value).Type", "(internal/reflectlite.Value).IsNil", "(internal/reflectlite.Value).Elem", "(internal/reflectlite.Value).Set", "internal/abi.NoEscape", "internal/bytealg.MakeNoZero"], unfollowed := true, recurses := true, named := ["internal/bytealg.MaxLen", "unicode/utf8.first", "unicode/utf8.acceptRanges", "barograph/text.errEnd", "barograph/text.errEscape", "errors.errorType"], apart := false, laid := [("unicode/utf8.acceptRanges", laid_unicode_utf8_acceptRanges), ("errors.errorType", laid_errors_errorType), ("barograph/text.errEscape", laid_barograph_text_errEscape), ("barograph/text.errEnd", laid_barograph_text_errEnd), ("unicode/utf8.first", laid_unicode_utf8_first)], narrowed := true }
def LabelsOrderUptoSaid : Prop := labelsOrderUptoRow.holds Tryz.pinned (OpenSpec.upto labelsOrderSpec)

/-- 'barographlaw07.LabelsBytes', WHERE WHAT IT READS IS OF BULK AT MOST 1048576: true; the input reads as it did. -/
def labelsBytesUptoRow : OpenClaim := { program := "ytchggapclmdpaaagreatdoor", sum := "82b5b4ef0a4ffba2365e9f95cf3f1125bbb4a1f31cf87d853795de534400bc9d", func := "barograph/barographlaw07.LabelsBytes", spec := "labelsBytes", inPlace := ["internal/bytealg.IndexByteString", "internal/bytealg.IndexString", "internal/reflectlite.TypeOf", "internal/reflectlite.ValueOf", "(internal/reflectlite.Value).Type", "(internal/reflectlite.Value).IsNil", "(internal/reflectlite.Value).Elem", "(internal/reflectlite.Value).Set", "internal/abi.NoEscape", "internal/bytealg.MakeNoZero"], unfollowed := true, recurses := true, named := ["internal/bytealg.MaxLen", "unicode/utf8.first", "unicode/utf8.acceptRanges", "barograph/text.errEnd", "barograph/text.errEscape", "errors.errorType"], apart := false, laid := [("unicode/utf8.acceptRanges", laid_unicode_utf8_acceptRanges), ("errors.errorType", laid_errors_errorType), ("barograph/text.errEscape", laid_barograph_text_errEscape), ("barograph/text.errEnd", laid_barograph_text_errEnd), ("unicode/utf8.first", laid_unicode_utf8_first)], narrowed := true }
def LabelsBytesUptoSaid : Prop := labelsBytesUptoRow.holds Tryz.pinned (OpenSpec.upto labelsBytesSpec)

/-- 'barographlaw07.LabelsBack', WHERE WHAT IT READS IS OF BULK AT MOST 1048576: true; the input reads as it did. -/
def labelsBackUptoRow : OpenClaim := { program := "ytchggapclmdpaaagreatdoor", sum := "82b5b4ef0a4ffba2365e9f95cf3f1125bbb4a1f31cf87d853795de534400bc9d", func := "barograph/barographlaw07.LabelsBack", spec := "labelsBack", inPlace := ["internal/bytealg.IndexByteString", "internal/bytealg.IndexString", "internal/reflectlite.TypeOf", "internal/reflectlite.ValueOf", "(internal/reflectlite.Value).Type", "(internal/reflectlite.Value).IsNil", "(internal/reflectlite.Value).Elem", "(internal/reflectlite.Value).Set", "internal/abi.NoEscape", "internal/bytealg.MakeNoZero"], unfollowed := true, recurses := true, named := ["internal/bytealg.MaxLen", "unicode/utf8.first", "unicode/utf8.acceptRanges", "barograph/text.errEnd", "barograph/text.errEscape", "errors.errorType"], apart := false, laid := [("unicode/utf8.acceptRanges", laid_unicode_utf8_acceptRanges), ("errors.errorType", laid_errors_errorType), ("barograph/text.errEscape", laid_barograph_text_errEscape), ("barograph/text.errEnd", laid_barograph_text_errEnd), ("unicode/utf8.first", laid_unicode_utf8_first)], narrowed := true }
def LabelsBackUptoSaid : Prop := labelsBackUptoRow.holds Tryz.pinned (OpenSpec.upto labelsBackSpec)

/-- 'barographlaw07.LabelsTurns', WHERE WHAT IT READS IS OF BULK AT MOST 1048576: true; the input reads as it did. -/
def labelsTurnsUptoRow : OpenClaim := { program := "ytchggapclmdpaaagreatdoor", sum := "82b5b4ef0a4ffba2365e9f95cf3f1125bbb4a1f31cf87d853795de534400bc9d", func := "barograph/barographlaw07.LabelsTurns", spec := "labelsTurns", inPlace := ["slices.overlaps[barograph/api.Label]", "internal/bytealg.IndexByteString", "internal/bytealg.IndexString", "internal/reflectlite.TypeOf", "internal/reflectlite.ValueOf", "(internal/reflectlite.Value).Type", "(internal/reflectlite.Value).IsNil", "(internal/reflectlite.Value).Elem", "(internal/reflectlite.Value).Set", "internal/abi.NoEscape", "internal/bytealg.MakeNoZero"], unfollowed := true, recurses := true, named := ["internal/bytealg.MaxLen", "unicode/utf8.first", "unicode/utf8.acceptRanges", "barograph/text.errEnd", "barograph/text.errEscape", "errors.errorType"], apart := false, laid := [("unicode/utf8.acceptRanges", laid_unicode_utf8_acceptRanges), ("errors.errorType", laid_errors_errorType), ("barograph/text.errEscape", laid_barograph_text_errEscape), ("barograph/text.errEnd", laid_barograph_text_errEnd), ("unicode/utf8.first", laid_unicode_utf8_first)], narrowed := true }
def LabelsTurnsUptoSaid : Prop := labelsTurnsUptoRow.holds Tryz.pinned (OpenSpec.upto labelsTurnsSpec)

end Rows
end Go.Proofs.YtchggapclmdpaaaGreatDoor
