/-
  No cell of these rows narrows 'for every input' (looked for: loops, veiled, ifaces, maps, wideKeys, modest, calm, conditions, laid).
  DERIVED. THE GIVEN ROWS OF THIS SEAT. 4 by the template 'for every input the law returns true; each argument reads behind the call as it read before'; 0 by the template 'total and deterministic' (their statements: YtglafbfbgjihbaaTotals.lean).
  GIVEN WITH THE SEED: the statements are not yours to turn. If you find one false, say at which input.
  Laid BY PROGRAM, IN A SANDBOX (cutbox-rows.mjs): the forced cells as the released guide's own fill.sh prints them over the translation 81e765d78e2d1368… (all of the seat's roots in one cut). By AI agents, Wed Nov 11 2026. No macro, syntax, notation, axiom, sorry.
-/
import Derived.Test.YtglafbfbgjihbaaChecked
import GoSem.Claim
import GoSem.ClaimJoined
import GoSem.ClaimMapViews
import Derived.JoinedTies
import Derived.KernelRfl
namespace Go.Proofs.Ytglafbfbgjihbaa
/- THE CELL 'sum', in the pinned program and in every row, IS THE sha256 OF THE DUMP (.gsa) THAT YtglafbfbgjihbaaProg.lean LOADS. Nothing in Lean hashes anything: it is a label: what it is worth is what the hold of that sum in a sandbox is worth. -/
noncomputable def Try.pinned : Pinned := { name := "ytglafbfbgjihbaa", sum := "81e765d78e2d1368ed72af8c58488e1128b1607a13bb25513bee6b940d69104a", checked := Try.checked }
namespace Rows
def none {H : Type} : Left H := { results := [], args := [] }

/-- 'barographlaw19.CompactPlans': WHATEVER THE INPUT: true; the input reads as it did. -/
def compactPlansSpec : ChangeSpec := { name := "compactPlans", fn := fun _ => fun
  | [d] => { results := [.lit (.bool true)], args := [d] }
  | _ => none }
def compactPlansRow : OpenClaim := { program := "ytglafbfbgjihbaa", sum := "81e765d78e2d1368ed72af8c58488e1128b1607a13bb25513bee6b940d69104a", func := "barograph/barographlaw19.CompactPlans", spec := "compactPlans", unfollowed := true, recurses := true, apart := false }
def CompactPlansSaid : Prop := compactPlansRow.holds Try.pinned (OpenSpec.ofChange compactPlansSpec)

/-- ITS FALSE NEIGHBOUR: 'it returns false'. Refute it at one input. -/
def compactPlansWrong : ChangeSpec := { name := "compactPlans", fn := fun _ => fun
  | [d] => { results := [.lit (.bool false)], args := [d] }
  | _ => none }
def CompactPlansWrongFalsely : Prop := compactPlansRow.holds Try.pinned (OpenSpec.ofChange compactPlansWrong)

/-- 'barographlaw19.CompactEnds': WHATEVER THE INPUT: true; the input reads as it did. -/
def compactEndsSpec : ChangeSpec := { name := "compactEnds", fn := fun _ => fun
  | [d] => { results := [.lit (.bool true)], args := [d] }
  | _ => none }
def compactEndsRow : OpenClaim := { program := "ytglafbfbgjihbaa", sum := "81e765d78e2d1368ed72af8c58488e1128b1607a13bb25513bee6b940d69104a", func := "barograph/barographlaw19.CompactEnds", spec := "compactEnds", unfollowed := true, recurses := true, apart := false }
def CompactEndsSaid : Prop := compactEndsRow.holds Try.pinned (OpenSpec.ofChange compactEndsSpec)

/-- ITS FALSE NEIGHBOUR: 'it returns false'. Refute it at one input. -/
def compactEndsWrong : ChangeSpec := { name := "compactEnds", fn := fun _ => fun
  | [d] => { results := [.lit (.bool false)], args := [d] }
  | _ => none }
def CompactEndsWrongFalsely : Prop := compactEndsRow.holds Try.pinned (OpenSpec.ofChange compactEndsWrong)

/-- 'barographlaw17.MergeSamples': WHATEVER THE INPUT: true; the input reads as it did. -/
def mergeSamplesSpec : ChangeSpec := { name := "mergeSamples", fn := fun _ => fun
  | [d] => { results := [.lit (.bool true)], args := [d] }
  | _ => none }
def mergeSamplesRow : OpenClaim := { program := "ytglafbfbgjihbaa", sum := "81e765d78e2d1368ed72af8c58488e1128b1607a13bb25513bee6b940d69104a", func := "barograph/barographlaw17.MergeSamples", spec := "mergeSamples", unfollowed := true, recurses := true, apart := false }
def MergeSamplesSaid : Prop := mergeSamplesRow.holds Try.pinned (OpenSpec.ofChange mergeSamplesSpec)

/-- ITS FALSE NEIGHBOUR: 'it returns false'. Refute it at one input. -/
def mergeSamplesWrong : ChangeSpec := { name := "mergeSamples", fn := fun _ => fun
  | [d] => { results := [.lit (.bool false)], args := [d] }
  | _ => none }
def MergeSamplesWrongFalsely : Prop := mergeSamplesRow.holds Try.pinned (OpenSpec.ofChange mergeSamplesWrong)

/-- 'barographlaw17.MergeCover': WHATEVER THE INPUT: true; the input reads as it did. -/
def mergeCoverSpec : ChangeSpec := { name := "mergeCover", fn := fun _ => fun
  | [d1, d2] => { results := [.lit (.bool true)], args := [d1, d2] }
  | _ => none }
def mergeCoverRow : OpenClaim := { program := "ytglafbfbgjihbaa", sum := "81e765d78e2d1368ed72af8c58488e1128b1607a13bb25513bee6b940d69104a", func := "barograph/barographlaw17.MergeCover", spec := "mergeCover", unfollowed := true, recurses := true, apart := false }
def MergeCoverSaid : Prop := mergeCoverRow.holds Try.pinned (OpenSpec.ofChange mergeCoverSpec)

/-- ITS FALSE NEIGHBOUR: 'it returns false'. Refute it at one input. -/
def mergeCoverWrong : ChangeSpec := { name := "mergeCover", fn := fun _ => fun
  | [d1, d2] => { results := [.lit (.bool false)], args := [d1, d2] }
  | _ => none }
def MergeCoverWrongFalsely : Prop := mergeCoverRow.holds Try.pinned (OpenSpec.ofChange mergeCoverWrong)

/- THE SECOND FORM. 'bulk': how many values and letters a reading holds, each counted each time it is reached (what is shared counts as often as it is met; a slice's spare places count too). A statement '..UptoSaid' is the law's where the arguments, and the package variables that the reading takes, are together of bulk at most 1048576: NARROWER than '..Said'. Prove '..Said' where nothing that the law and all that it calls make is longer than what came in: it says more and counts as full. Else prove '..UptoSaid'. A law counts once. -/
mutual
def uptoBulk {H : Type} : DataW H → Nat
  | .lit (.string bytes) => bytes.length + 1
  | .lit _ => 1
  | .nil => 1
  | .ptr d => uptoBulk d + 1
  | .slice elems spare => uptoBulkAll elems + uptoBulkAll spare + 1
  | .agg parts => uptoBulkAll parts + 1
  | .iface _ d => uptoBulk d + 1
  | .map entries => uptoBulkEntries entries + 1
  | .held _ => 1
def uptoBulkAll {H : Type} : List (DataW H) → Nat
  | [] => 0
  | d :: r => uptoBulk d + uptoBulkAll r
def uptoBulkEntries {H : Type} : List (Lit × DataW H) → Nat
  | [] => 0
  | x :: r => uptoBulkEntry x + uptoBulkEntries r
def uptoBulkEntry {H : Type} : Lit × DataW H → Nat
  | (.string bytes, d) => bytes.length + uptoBulk d + 1
  | (_, d) => uptoBulk d + 1
 end
def uptoSmall : (H : Type) → List (DataW H) → Bool := fun _ ds => decide (uptoBulkAll ds ≤ 1048576)
def OpenSpec.upto (s : _root_.Go.ChangeSpec) : _root_.Go.OpenSpec := { _root_.Go.OpenSpec.ofChange s with cond := some uptoSmall }

/-- 'barographlaw19.CompactPlans', WHERE WHAT IT READS IS OF BULK AT MOST 1048576: true; the input reads as it did. -/
def compactPlansUptoRow : OpenClaim := { program := "ytglafbfbgjihbaa", sum := "81e765d78e2d1368ed72af8c58488e1128b1607a13bb25513bee6b940d69104a", func := "barograph/barographlaw19.CompactPlans", spec := "compactPlans", unfollowed := true, recurses := true, apart := false, narrowed := true }
def CompactPlansUptoSaid : Prop := compactPlansUptoRow.holds Try.pinned (OpenSpec.upto compactPlansSpec)

/-- 'barographlaw19.CompactEnds', WHERE WHAT IT READS IS OF BULK AT MOST 1048576: true; the input reads as it did. -/
def compactEndsUptoRow : OpenClaim := { program := "ytglafbfbgjihbaa", sum := "81e765d78e2d1368ed72af8c58488e1128b1607a13bb25513bee6b940d69104a", func := "barograph/barographlaw19.CompactEnds", spec := "compactEnds", unfollowed := true, recurses := true, apart := false, narrowed := true }
def CompactEndsUptoSaid : Prop := compactEndsUptoRow.holds Try.pinned (OpenSpec.upto compactEndsSpec)

/-- 'barographlaw17.MergeSamples', WHERE WHAT IT READS IS OF BULK AT MOST 1048576: true; the input reads as it did. -/
def mergeSamplesUptoRow : OpenClaim := { program := "ytglafbfbgjihbaa", sum := "81e765d78e2d1368ed72af8c58488e1128b1607a13bb25513bee6b940d69104a", func := "barograph/barographlaw17.MergeSamples", spec := "mergeSamples", unfollowed := true, recurses := true, apart := false, narrowed := true }
def MergeSamplesUptoSaid : Prop := mergeSamplesUptoRow.holds Try.pinned (OpenSpec.upto mergeSamplesSpec)

/-- 'barographlaw17.MergeCover', WHERE WHAT IT READS IS OF BULK AT MOST 1048576: true; the input reads as it did. -/
def mergeCoverUptoRow : OpenClaim := { program := "ytglafbfbgjihbaa", sum := "81e765d78e2d1368ed72af8c58488e1128b1607a13bb25513bee6b940d69104a", func := "barograph/barographlaw17.MergeCover", spec := "mergeCover", unfollowed := true, recurses := true, apart := false, narrowed := true }
def MergeCoverUptoSaid : Prop := mergeCoverUptoRow.holds Try.pinned (OpenSpec.upto mergeCoverSpec)

end Rows
end Go.Proofs.Ytglafbfbgjihbaa
