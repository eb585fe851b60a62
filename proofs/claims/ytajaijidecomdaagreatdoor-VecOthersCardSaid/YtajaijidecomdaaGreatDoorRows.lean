/-
  NARROWER THAN 'FOR EVERY INPUT', by the rows' own cells (each row's printed sentence says how): VecNumbers: laid · VecNumber: laid · VecVectors: laid · VecParts: laid · VecTurned: laid · VecFilters: laid · VecOthers: laid.
  DERIVED. THE GIVEN ROWS OF THIS SEAT. 7 by the template 'for every input the law returns true; each argument reads behind the call as it read before'; 0 by the template 'total and deterministic' (their statements: YtajaijidecomdaaGreatDoorTotals.lean).
  GIVEN WITH THE SEED: the statements are not yours to turn. If you find one false, say at which input.
  Laid BY PROGRAM, IN A SANDBOX (cutbox-rows.mjs): the forced cells as the released guide's own fill.sh prints them over the translation 966fc7feaea7b5eb… (all of the seat's roots in one cut). By AI agents, Wed Nov 11 2026. No macro, syntax, notation, axiom, sorry.
-/
import Derived.Test.YtajaijidecomdaaGreatDoorChecked
import GoSem.PinnedTables
import GoSem.Claim
import GoSem.ClaimJoined
import GoSem.ClaimMapViews
import Derived.JoinedTies
import Derived.KernelRfl
namespace Go.Proofs.YtajaijidecomdaaGreatDoor
/- THE CELL 'sum', in the pinned program and in every row, IS THE sha256 OF THE DUMP (.gsa) THAT YtajaijidecomdaaGreatDoorProg.lean LOADS. Nothing in Lean hashes anything: it is a label: what it is worth is what the hold of that sum in a sandbox is worth. -/
noncomputable def Tryz.pinned : Pinned := { name := "ytajaijidecomdaagreatdoor", sum := "966fc7feaea7b5eb1db57e3f2588815effb155240089bf4efa61e9815694d9c2", checked := Tryz.checked }
namespace Rows
def none {H : Type} : Left H := { results := [], args := [] }

/- WHAT THE LISTED PACKAGE-LEVEL VARIABLES READ AS WHEN THE CALL BEGINS. Each datum BY PROGRAM (the guide's laid-datum.mjs) off the statement by which the dump's own 'gosem.cut.vars' lays the variable. In a bare row this is a premise. The card (YtajaijidecomdaaGreatDoorCards.lean) ties it to the program's text. -/
def laid_math_bits_deBruijn64tab {H : Type} : DataW H := .agg [.lit (.int .u8 0), .lit (.int .u8 1), .lit (.int .u8 56), .lit (.int .u8 2), .lit (.int .u8 57), .lit (.int .u8 49), .lit (.int .u8 28), .lit (.int .u8 3), .lit (.int .u8 61), .lit (.int .u8 58), .lit (.int .u8 42), .lit (.int .u8 50), .lit (.int .u8 38), .lit (.int .u8 29), .lit (.int .u8 17), .lit (.int .u8 4), .lit (.int .u8 62), .lit (.int .u8 47), .lit (.int .u8 59), .lit (.int .u8 36), .lit (.int .u8 45), .lit (.int .u8 43), .lit (.int .u8 51), .lit (.int .u8 22), .lit (.int .u8 53), .lit (.int .u8 39), .lit (.int .u8 33), .lit (.int .u8 30), .lit (.int .u8 24), .lit (.int .u8 18), .lit (.int .u8 12), .lit (.int .u8 5), .lit (.int .u8 63), .lit (.int .u8 55), .lit (.int .u8 48), .lit (.int .u8 27), .lit (.int .u8 60), .lit (.int .u8 41), .lit (.int .u8 37), .lit (.int .u8 16), .lit (.int .u8 46), .lit (.int .u8 35), .lit (.int .u8 44), .lit (.int .u8 21), .lit (.int .u8 52), .lit (.int .u8 32), .lit (.int .u8 23), .lit (.int .u8 11), .lit (.int .u8 54), .lit (.int .u8 26), .lit (.int .u8 40), .lit (.int .u8 15), .lit (.int .u8 34), .lit (.int .u8 20), .lit (.int .u8 31), .lit (.int .u8 10), .lit (.int .u8 25), .lit (.int .u8 14), .lit (.int .u8 19), .lit (.int .u8 9), .lit (.int .u8 13), .lit (.int .u8 8), .lit (.int .u8 7), .lit (.int .u8 6)]
def laid_unicode_utf8_acceptRanges {H : Type} : DataW H := .agg [.agg [.lit (.int .u8 128), .lit (.int .u8 191)], .agg [.lit (.int .u8 160), .lit (.int .u8 191)], .agg [.lit (.int .u8 128), .lit (.int .u8 159)], .agg [.lit (.int .u8 144), .lit (.int .u8 191)], .agg [.lit (.int .u8 128), .lit (.int .u8 143)], .agg [.lit (.int .u8 0), .lit (.int .u8 0)], .agg [.lit (.int .u8 0), .lit (.int .u8 0)], .agg [.lit (.int .u8 0), .lit (.int .u8 0)], .agg [.lit (.int .u8 0), .lit (.int .u8 0)], .agg [.lit (.int .u8 0), .lit (.int .u8 0)], .agg [.lit (.int .u8 0), .lit (.int .u8 0)], .agg [.lit (.int .u8 0), .lit (.int .u8 0)], .agg [.lit (.int .u8 0), .lit (.int .u8 0)], .agg [.lit (.int .u8 0), .lit (.int .u8 0)], .agg [.lit (.int .u8 0), .lit (.int .u8 0)], .agg [.lit (.int .u8 0), .lit (.int .u8 0)]]
/-- One of Go's own tables, pinned by name: the form's constant. -/
def laid_unicode_utf8_first : DataW Unit := Go.Pinned.utf8First

/-- 'barographlaw25.VecNumbers': WHATEVER THE INPUT: true; the input reads as it did. -/
def vecNumbersSpec : ChangeSpec := { name := "vecNumbers", fn := fun _ => fun
  | [d1, d2, d3, d4] => { results := [.lit (.bool true)], args := [d1, d2, d3, d4] }
  | _ => none }
def vecNumbersRow : OpenClaim := { program := "ytajaijidecomdaagreatdoor", sum := "966fc7feaea7b5eb1db57e3f2588815effb155240089bf4efa61e9815694d9c2", func := "barograph/barographlaw25.VecNumbers", spec := "vecNumbers", inPlace := ["math.Float64frombits", "math.Float64bits", "math.archTrunc", "math.archFloor", "internal/bytealg.IndexByteString", "internal/bytealg.IndexString", "internal/abi.NoEscape", "internal/bytealg.MakeNoZero", "slices.overlaps[barograph/api.Label]"], unfollowed := true, recurses := true, named := ["math/bits.deBruijn64tab", "internal/bytealg.MaxLen", "unicode/utf8.first", "unicode/utf8.acceptRanges"], apart := false, laid := [("math/bits.deBruijn64tab", laid_math_bits_deBruijn64tab), ("unicode/utf8.acceptRanges", laid_unicode_utf8_acceptRanges), ("unicode/utf8.first", laid_unicode_utf8_first)] }
def VecNumbersSaid : Prop := vecNumbersRow.holds Tryz.pinned (OpenSpec.ofChange vecNumbersSpec)

/-- ITS FALSE NEIGHBOUR: 'it returns false'. Refute it at one input. -/
def vecNumbersWrong : ChangeSpec := { name := "vecNumbers", fn := fun _ => fun
  | [d1, d2, d3, d4] => { results := [.lit (.bool false)], args := [d1, d2, d3, d4] }
  | _ => none }
def VecNumbersWrongFalsely : Prop := vecNumbersRow.holds Tryz.pinned (OpenSpec.ofChange vecNumbersWrong)

/-- 'barographlaw25.VecNumber': WHATEVER THE INPUT: true; the input reads as it did. -/
def vecNumberSpec : ChangeSpec := { name := "vecNumber", fn := fun _ => fun
  | [d1, d2, d3, d4, d5] => { results := [.lit (.bool true)], args := [d1, d2, d3, d4, d5] }
  | _ => none }
def vecNumberRow : OpenClaim := { program := "ytajaijidecomdaagreatdoor", sum := "966fc7feaea7b5eb1db57e3f2588815effb155240089bf4efa61e9815694d9c2", func := "barograph/barographlaw25.VecNumber", spec := "vecNumber", inPlace := ["math.Float64frombits", "math.Float64bits", "math.archTrunc", "math.archFloor", "internal/bytealg.IndexByteString", "internal/bytealg.IndexString", "internal/abi.NoEscape", "internal/bytealg.MakeNoZero", "slices.overlaps[barograph/api.Label]"], unfollowed := true, recurses := true, named := ["math/bits.deBruijn64tab", "internal/bytealg.MaxLen", "unicode/utf8.first", "unicode/utf8.acceptRanges"], apart := false, laid := [("math/bits.deBruijn64tab", laid_math_bits_deBruijn64tab), ("unicode/utf8.acceptRanges", laid_unicode_utf8_acceptRanges), ("unicode/utf8.first", laid_unicode_utf8_first)] }
def VecNumberSaid : Prop := vecNumberRow.holds Tryz.pinned (OpenSpec.ofChange vecNumberSpec)

/-- ITS FALSE NEIGHBOUR: 'it returns false'. Refute it at one input. -/
def vecNumberWrong : ChangeSpec := { name := "vecNumber", fn := fun _ => fun
  | [d1, d2, d3, d4, d5] => { results := [.lit (.bool false)], args := [d1, d2, d3, d4, d5] }
  | _ => none }
def VecNumberWrongFalsely : Prop := vecNumberRow.holds Tryz.pinned (OpenSpec.ofChange vecNumberWrong)

/-- 'barographlaw25.VecVectors': WHATEVER THE INPUT: true; the input reads as it did. -/
def vecVectorsSpec : ChangeSpec := { name := "vecVectors", fn := fun _ => fun
  | [d1, d2, d3, d4, d5] => { results := [.lit (.bool true)], args := [d1, d2, d3, d4, d5] }
  | _ => none }
def vecVectorsRow : OpenClaim := { program := "ytajaijidecomdaagreatdoor", sum := "966fc7feaea7b5eb1db57e3f2588815effb155240089bf4efa61e9815694d9c2", func := "barograph/barographlaw25.VecVectors", spec := "vecVectors", inPlace := ["internal/bytealg.IndexByteString", "internal/bytealg.IndexString", "math.Float64frombits", "internal/abi.NoEscape", "internal/bytealg.MakeNoZero", "math.Float64bits", "math.archTrunc", "math.archFloor", "slices.overlaps[barograph/api.Label]"], unfollowed := true, recurses := true, named := ["internal/bytealg.MaxLen", "unicode/utf8.first", "unicode/utf8.acceptRanges", "math/bits.deBruijn64tab"], apart := false, laid := [("math/bits.deBruijn64tab", laid_math_bits_deBruijn64tab), ("unicode/utf8.acceptRanges", laid_unicode_utf8_acceptRanges), ("unicode/utf8.first", laid_unicode_utf8_first)] }
def VecVectorsSaid : Prop := vecVectorsRow.holds Tryz.pinned (OpenSpec.ofChange vecVectorsSpec)

/-- ITS FALSE NEIGHBOUR: 'it returns false'. Refute it at one input. -/
def vecVectorsWrong : ChangeSpec := { name := "vecVectors", fn := fun _ => fun
  | [d1, d2, d3, d4, d5] => { results := [.lit (.bool false)], args := [d1, d2, d3, d4, d5] }
  | _ => none }
def VecVectorsWrongFalsely : Prop := vecVectorsRow.holds Tryz.pinned (OpenSpec.ofChange vecVectorsWrong)

/-- 'barographlaw25.VecParts': WHATEVER THE INPUT: true; the input reads as it did. -/
def vecPartsSpec : ChangeSpec := { name := "vecParts", fn := fun _ => fun
  | [d1, d2, d3] => { results := [.lit (.bool true)], args := [d1, d2, d3] }
  | _ => none }
def vecPartsRow : OpenClaim := { program := "ytajaijidecomdaagreatdoor", sum := "966fc7feaea7b5eb1db57e3f2588815effb155240089bf4efa61e9815694d9c2", func := "barograph/barographlaw25.VecParts", spec := "vecParts", inPlace := ["internal/bytealg.IndexByteString", "internal/bytealg.IndexString", "math.Float64frombits", "internal/abi.NoEscape", "internal/bytealg.MakeNoZero", "math.Float64bits", "math.archTrunc", "math.archFloor", "slices.overlaps[barograph/api.Label]"], unfollowed := true, recurses := true, named := ["internal/bytealg.MaxLen", "unicode/utf8.first", "unicode/utf8.acceptRanges", "math/bits.deBruijn64tab"], apart := false, laid := [("math/bits.deBruijn64tab", laid_math_bits_deBruijn64tab), ("unicode/utf8.acceptRanges", laid_unicode_utf8_acceptRanges), ("unicode/utf8.first", laid_unicode_utf8_first)] }
def VecPartsSaid : Prop := vecPartsRow.holds Tryz.pinned (OpenSpec.ofChange vecPartsSpec)

/-- ITS FALSE NEIGHBOUR: 'it returns false'. Refute it at one input. -/
def vecPartsWrong : ChangeSpec := { name := "vecParts", fn := fun _ => fun
  | [d1, d2, d3] => { results := [.lit (.bool false)], args := [d1, d2, d3] }
  | _ => none }
def VecPartsWrongFalsely : Prop := vecPartsRow.holds Tryz.pinned (OpenSpec.ofChange vecPartsWrong)

/-- 'barographlaw25.VecTurned': WHATEVER THE INPUT: true; the input reads as it did. -/
def vecTurnedSpec : ChangeSpec := { name := "vecTurned", fn := fun _ => fun
  | [d1, d2, d3, d4, d5] => { results := [.lit (.bool true)], args := [d1, d2, d3, d4, d5] }
  | _ => none }
def vecTurnedRow : OpenClaim := { program := "ytajaijidecomdaagreatdoor", sum := "966fc7feaea7b5eb1db57e3f2588815effb155240089bf4efa61e9815694d9c2", func := "barograph/barographlaw25.VecTurned", spec := "vecTurned", inPlace := ["internal/bytealg.IndexByteString", "internal/bytealg.IndexString", "math.Float64frombits", "internal/abi.NoEscape", "internal/bytealg.MakeNoZero", "math.Float64bits", "math.archTrunc", "math.archFloor", "slices.overlaps[barograph/api.Label]"], unfollowed := true, recurses := true, named := ["internal/bytealg.MaxLen", "unicode/utf8.first", "unicode/utf8.acceptRanges", "math/bits.deBruijn64tab"], apart := false, laid := [("math/bits.deBruijn64tab", laid_math_bits_deBruijn64tab), ("unicode/utf8.acceptRanges", laid_unicode_utf8_acceptRanges), ("unicode/utf8.first", laid_unicode_utf8_first)] }
def VecTurnedSaid : Prop := vecTurnedRow.holds Tryz.pinned (OpenSpec.ofChange vecTurnedSpec)

/-- ITS FALSE NEIGHBOUR: 'it returns false'. Refute it at one input. -/
def vecTurnedWrong : ChangeSpec := { name := "vecTurned", fn := fun _ => fun
  | [d1, d2, d3, d4, d5] => { results := [.lit (.bool false)], args := [d1, d2, d3, d4, d5] }
  | _ => none }
def VecTurnedWrongFalsely : Prop := vecTurnedRow.holds Tryz.pinned (OpenSpec.ofChange vecTurnedWrong)

/-- 'barographlaw25.VecFilters': WHATEVER THE INPUT: true; the input reads as it did. -/
def vecFiltersSpec : ChangeSpec := { name := "vecFilters", fn := fun _ => fun
  | [d1, d2, d3, d4] => { results := [.lit (.bool true)], args := [d1, d2, d3, d4] }
  | _ => none }
def vecFiltersRow : OpenClaim := { program := "ytajaijidecomdaagreatdoor", sum := "966fc7feaea7b5eb1db57e3f2588815effb155240089bf4efa61e9815694d9c2", func := "barograph/barographlaw25.VecFilters", spec := "vecFilters", inPlace := ["math.Float64frombits", "math.Float64bits", "math.archTrunc", "math.archFloor", "internal/bytealg.IndexByteString", "internal/bytealg.IndexString", "internal/abi.NoEscape", "internal/bytealg.MakeNoZero", "slices.overlaps[barograph/api.Label]"], unfollowed := true, recurses := true, named := ["math/bits.deBruijn64tab", "internal/bytealg.MaxLen", "unicode/utf8.first", "unicode/utf8.acceptRanges"], apart := false, laid := [("math/bits.deBruijn64tab", laid_math_bits_deBruijn64tab), ("unicode/utf8.acceptRanges", laid_unicode_utf8_acceptRanges), ("unicode/utf8.first", laid_unicode_utf8_first)] }
def VecFiltersSaid : Prop := vecFiltersRow.holds Tryz.pinned (OpenSpec.ofChange vecFiltersSpec)

/-- ITS FALSE NEIGHBOUR: 'it returns false'. Refute it at one input. -/
def vecFiltersWrong : ChangeSpec := { name := "vecFilters", fn := fun _ => fun
  | [d1, d2, d3, d4] => { results := [.lit (.bool false)], args := [d1, d2, d3, d4] }
  | _ => none }
def VecFiltersWrongFalsely : Prop := vecFiltersRow.holds Tryz.pinned (OpenSpec.ofChange vecFiltersWrong)

/-- 'barographlaw25.VecOthers': WHATEVER THE INPUT: true; the input reads as it did. -/
def vecOthersSpec : ChangeSpec := { name := "vecOthers", fn := fun _ => fun
  | [d1, d2] => { results := [.lit (.bool true)], args := [d1, d2] }
  | _ => none }
def vecOthersRow : OpenClaim := { program := "ytajaijidecomdaagreatdoor", sum := "966fc7feaea7b5eb1db57e3f2588815effb155240089bf4efa61e9815694d9c2", func := "barograph/barographlaw25.VecOthers", spec := "vecOthers", inPlace := ["math.Float64frombits", "math.Float64bits", "math.archTrunc", "math.archFloor", "internal/bytealg.IndexByteString", "internal/bytealg.IndexString", "internal/abi.NoEscape", "internal/bytealg.MakeNoZero", "slices.overlaps[barograph/api.Label]"], unfollowed := true, recurses := true, named := ["math/bits.deBruijn64tab", "internal/bytealg.MaxLen", "unicode/utf8.first", "unicode/utf8.acceptRanges"], apart := false, laid := [("math/bits.deBruijn64tab", laid_math_bits_deBruijn64tab), ("unicode/utf8.acceptRanges", laid_unicode_utf8_acceptRanges), ("unicode/utf8.first", laid_unicode_utf8_first)] }
def VecOthersSaid : Prop := vecOthersRow.holds Tryz.pinned (OpenSpec.ofChange vecOthersSpec)

/-- ITS FALSE NEIGHBOUR: 'it returns false'. Refute it at one input. -/
def vecOthersWrong : ChangeSpec := { name := "vecOthers", fn := fun _ => fun
  | [d1, d2] => { results := [.lit (.bool false)], args := [d1, d2] }
  | _ => none }
def VecOthersWrongFalsely : Prop := vecOthersRow.holds Tryz.pinned (OpenSpec.ofChange vecOthersWrong)

/- THE SECOND FORM. 'bulk': how many values and letters a reading holds, each counted each time it is reached (what is shared counts as often as it is met; a slice's spare places count too). A statement '..UptoSaid' is the law's where the arguments, and the package variables that the reading takes, are together of bulk at most 1048576: NARROWER than '..Said'. Prove '..Said' where nothing that the law and all that it calls make is longer than what came in: it says more and counts as full. Else prove '..UptoSaid'. A law counts once. -/
mutual
def uptoBulk {H : Type} : DataW H → Nat
  | .lit (.string bytes) => bytes.length + 1
  | .lit _ => 1
  | .nil => 1
  | .ptr d => uptoBulk d + 1
  | .slice elems spare => uptoBulkAll elems + uptoBulkAll spare + 1
  | .agg parts => uptoBulkAll parts + 1
  | .iface _ d => uptoBulk d + 1
  | .map entries => uptoBulkEntries entries + 1
  | .held _ => 1
def uptoBulkAll {H : Type} : List (DataW H) → Nat
  | [] => 0
  | d :: r => uptoBulk d + uptoBulkAll r
def uptoBulkEntries {H : Type} : List (Lit × DataW H) → Nat
  | [] => 0
  | x :: r => uptoBulkEntry x + uptoBulkEntries r
def uptoBulkEntry {H : Type} : Lit × DataW H → Nat
  | (.string bytes, d) => bytes.length + uptoBulk d + 1
  | (_, d) => uptoBulk d + 1
 end
def uptoSmall : (H : Type) → List (DataW H) → Bool := fun _ ds => decide (uptoBulkAll ds ≤ 1048576)
def OpenSpec.upto (s : _root_.Go.ChangeSpec) : _root_.Go.OpenSpec := { _root_.Go.OpenSpec.ofChange s with cond := some uptoSmall }

/-- 'barographlaw25.VecNumbers', WHERE WHAT IT READS IS OF BULK AT MOST 1048576: true; the input reads as it did. -/
def vecNumbersUptoRow : OpenClaim := { program := "ytajaijidecomdaagreatdoor", sum := "966fc7feaea7b5eb1db57e3f2588815effb155240089bf4efa61e9815694d9c2", func := "barograph/barographlaw25.VecNumbers", spec := "vecNumbers", inPlace := ["math.Float64frombits", "math.Float64bits", "math.archTrunc", "math.archFloor", "internal/bytealg.IndexByteString", "internal/bytealg.IndexString", "internal/abi.NoEscape", "internal/bytealg.MakeNoZero", "slices.overlaps[barograph/api.Label]"], unfollowed := true, recurses := true, named := ["math/bits.deBruijn64tab", "internal/bytealg.MaxLen", "unicode/utf8.first", "unicode/utf8.acceptRanges"], apart := false, laid := [("math/bits.deBruijn64tab", laid_math_bits_deBruijn64tab), ("unicode/utf8.acceptRanges", laid_unicode_utf8_acceptRanges), ("unicode/utf8.first", laid_unicode_utf8_first)], narrowed := true }
def VecNumbersUptoSaid : Prop := vecNumbersUptoRow.holds Tryz.pinned (OpenSpec.upto vecNumbersSpec)

/-- 'barographlaw25.VecNumber', WHERE WHAT IT READS IS OF BULK AT MOST 1048576: true; the input reads as it did. -/
def vecNumberUptoRow : OpenClaim := { program := "ytajaijidecomdaagreatdoor", sum := "966fc7feaea7b5eb1db57e3f2588815effb155240089bf4efa61e9815694d9c2", func := "barograph/barographlaw25.VecNumber", spec := "vecNumber", inPlace := ["math.Float64frombits", "math.Float64bits", "math.archTrunc", "math.archFloor", "internal/bytealg.IndexByteString", "internal/bytealg.IndexString", "internal/abi.NoEscape", "internal/bytealg.MakeNoZero", "slices.overlaps[barograph/api.Label]"], unfollowed := true, recurses := true, named := ["math/bits.deBruijn64tab", "internal/bytealg.MaxLen", "unicode/utf8.first", "unicode/utf8.acceptRanges"], apart := false, laid := [("math/bits.deBruijn64tab", laid_math_bits_deBruijn64tab), ("unicode/utf8.acceptRanges", laid_unicode_utf8_acceptRanges), ("unicode/utf8.first", laid_unicode_utf8_first)], narrowed := true }
def VecNumberUptoSaid : Prop := vecNumberUptoRow.holds Tryz.pinned (OpenSpec.upto vecNumberSpec)

/-- 'barographlaw25.VecVectors', WHERE WHAT IT READS IS OF BULK AT MOST 1048576: true; the input reads as it did. -/
def vecVectorsUptoRow : OpenClaim := { program := "ytajaijidecomdaagreatdoor", sum := "966fc7feaea7b5eb1db57e3f2588815effb155240089bf4efa61e9815694d9c2", func := "barograph/barographlaw25.VecVectors", spec := "vecVectors", inPlace := ["internal/bytealg.IndexByteString", "internal/bytealg.IndexString", "math.Float64frombits", "internal/abi.NoEscape", "internal/bytealg.MakeNoZero", "math.Float64bits", "math.archTrunc", "math.archFloor", "slices.overlaps[barograph/api.Label]"], unfollowed := true, recurses := true, named := ["internal/bytealg.MaxLen", "unicode/utf8.first", "unicode/utf8.acceptRanges", "math/bits.deBruijn64tab"], apart := false, laid := [("math/bits.deBruijn64tab", laid_math_bits_deBruijn64tab), ("unicode/utf8.acceptRanges", laid_unicode_utf8_acceptRanges), ("unicode/utf8.first", laid_unicode_utf8_first)], narrowed := true }
def VecVectorsUptoSaid : Prop := vecVectorsUptoRow.holds Tryz.pinned (OpenSpec.upto vecVectorsSpec)

/-- 'barographlaw25.VecParts', WHERE WHAT IT READS IS OF BULK AT MOST 1048576: true; the input reads as it did. -/
def vecPartsUptoRow : OpenClaim := { program := "ytajaijidecomdaagreatdoor", sum := "966fc7feaea7b5eb1db57e3f2588815effb155240089bf4efa61e9815694d9c2", func := "barograph/barographlaw25.VecParts", spec := "vecParts", inPlace := ["internal/bytealg.IndexByteString", "internal/bytealg.IndexString", "math.Float64frombits", "internal/abi.NoEscape", "internal/bytealg.MakeNoZero", "math.Float64bits", "math.archTrunc", "math.archFloor", "slices.overlaps[barograph/api.Label]"], unfollowed := true, recurses := true, named := ["internal/bytealg.MaxLen", "unicode/utf8.first", "unicode/utf8.acceptRanges", "math/bits.deBruijn64tab"], apart := false, laid := [("math/bits.deBruijn64tab", laid_math_bits_deBruijn64tab), ("unicode/utf8.acceptRanges", laid_unicode_utf8_acceptRanges), ("unicode/utf8.first", laid_unicode_utf8_first)], narrowed := true }
def VecPartsUptoSaid : Prop := vecPartsUptoRow.holds Tryz.pinned (OpenSpec.upto vecPartsSpec)

/-- 'barographlaw25.VecTurned', WHERE WHAT IT READS IS OF BULK AT MOST 1048576: true; the input reads as it did. -/
def vecTurnedUptoRow : OpenClaim := { program := "ytajaijidecomdaagreatdoor", sum := "966fc7feaea7b5eb1db57e3f2588815effb155240089bf4efa61e9815694d9c2", func := "barograph/barographlaw25.VecTurned", spec := "vecTurned", inPlace := ["internal/bytealg.IndexByteString", "internal/bytealg.IndexString", "math.Float64frombits", "internal/abi.NoEscape", "internal/bytealg.MakeNoZero", "math.Float64bits", "math.archTrunc", "math.archFloor", "slices.overlaps[barograph/api.Label]"], unfollowed := true, recurses := true, named := ["internal/bytealg.MaxLen", "unicode/utf8.first", "unicode/utf8.acceptRanges", "math/bits.deBruijn64tab"], apart := false, laid := [("math/bits.deBruijn64tab", laid_math_bits_deBruijn64tab), ("unicode/utf8.acceptRanges", laid_unicode_utf8_acceptRanges), ("unicode/utf8.first", laid_unicode_utf8_first)], narrowed := true }
def VecTurnedUptoSaid : Prop := vecTurnedUptoRow.holds Tryz.pinned (OpenSpec.upto vecTurnedSpec)

/-- 'barographlaw25.VecFilters', WHERE WHAT IT READS IS OF BULK AT MOST 1048576: true; the input reads as it did. -/
def vecFiltersUptoRow : OpenClaim := { program := "ytajaijidecomdaagreatdoor", sum := "966fc7feaea7b5eb1db57e3f2588815effb155240089bf4efa61e9815694d9c2", func := "barograph/barographlaw25.VecFilters", spec := "vecFilters", inPlace := ["math.Float64frombits", "math.Float64bits", "math.archTrunc", "math.archFloor", "internal/bytealg.IndexByteString", "internal/bytealg.IndexString", "internal/abi.NoEscape", "internal/bytealg.MakeNoZero", "slices.overlaps[barograph/api.Label]"], unfollowed := true, recurses := true, named := ["math/bits.deBruijn64tab", "internal/bytealg.MaxLen", "unicode/utf8.first", "unicode/utf8.acceptRanges"], apart := false, laid := [("math/bits.deBruijn64tab", laid_math_bits_deBruijn64tab), ("unicode/utf8.acceptRanges", laid_unicode_utf8_acceptRanges), ("unicode/utf8.first", laid_unicode_utf8_first)], narrowed := true }
def VecFiltersUptoSaid : Prop := vecFiltersUptoRow.holds Tryz.pinned (OpenSpec.upto vecFiltersSpec)

/-- 'barographlaw25.VecOthers', WHERE WHAT IT READS IS OF BULK AT MOST 1048576: true; the input reads as it did. -/
def vecOthersUptoRow : OpenClaim := { program := "ytajaijidecomdaagreatdoor", sum := "966fc7feaea7b5eb1db57e3f2588815effb155240089bf4efa61e9815694d9c2", func := "barograph/barographlaw25.VecOthers", spec := "vecOthers", inPlace := ["math.Float64frombits", "math.Float64bits", "math.archTrunc", "math.archFloor", "internal/bytealg.IndexByteString", "internal/bytealg.IndexString", "internal/abi.NoEscape", "internal/bytealg.MakeNoZero", "slices.overlaps[barograph/api.Label]"], unfollowed := true, recurses := true, named := ["math/bits.deBruijn64tab", "internal/bytealg.MaxLen", "unicode/utf8.first", "unicode/utf8.acceptRanges"], apart := false, laid := [("math/bits.deBruijn64tab", laid_math_bits_deBruijn64tab), ("unicode/utf8.acceptRanges", laid_unicode_utf8_acceptRanges), ("unicode/utf8.first", laid_unicode_utf8_first)], narrowed := true }
def VecOthersUptoSaid : Prop := vecOthersUptoRow.holds Tryz.pinned (OpenSpec.upto vecOthersSpec)

end Rows
end Go.Proofs.YtajaijidecomdaaGreatDoor
