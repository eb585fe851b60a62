/-
  No cell of these rows narrows 'for every input' (looked for: loops, veiled, ifaces, maps, wideKeys, modest, calm, conditions, laid).
  DERIVED. THE GIVEN ROWS OF THIS SEAT. 3 by the template 'for every input the law returns true; each argument reads behind the call as it read before'; 0 by the template 'total and deterministic' (their statements: YtihidnmpngeohaaGreatTotals.lean).
  GIVEN WITH THE SEED: the statements are not yours to turn. If you find one false, say at which input.
  Laid BY PROGRAM, IN A SANDBOX (cutbox-rows.mjs): the forced cells as the released guide's own fill.sh prints them over the translation 7022d3c3af4af07b… (all of the seat's roots in one cut). By AI agents, Wed Nov 11 2026. No macro, syntax, notation, axiom, sorry.
-/
import Derived.Test.YtihidnmpngeohaaGreatChecked
import GoSem.Claim
import GoSem.ClaimJoined
import GoSem.ClaimMapViews
import Derived.JoinedTies
import Derived.KernelRfl
namespace Go.Proofs.YtihidnmpngeohaaGreat
/- THE CELL 'sum', in the pinned program and in every row, IS THE sha256 OF THE DUMP (.gsa) THAT YtihidnmpngeohaaGreatProg.lean LOADS. Nothing in Lean hashes anything: it is a label: what it is worth is what the hold of that sum in a sandbox is worth. -/
noncomputable def Tryz.pinned : Pinned := { name := "ytihidnmpngeohaagreat", sum := "7022d3c3af4af07bbe6e6759cb6cbeb54987be437062dd6497ddc12c4fb148cc", checked := Tryz.checked }
namespace Rows
def none {H : Type} : Left H := { results := [], args := [] }

/-- 'barographlaw17.MergeTombs': WHATEVER THE INPUT: true; the input reads as it did. -/
def mergeTombsSpec : ChangeSpec := { name := "mergeTombs", fn := fun _ => fun
  | [d] => { results := [.lit (.bool true)], args := [d] }
  | _ => none }
def mergeTombsRow : OpenClaim := { program := "ytihidnmpngeohaagreat", sum := "7022d3c3af4af07bbe6e6759cb6cbeb54987be437062dd6497ddc12c4fb148cc", func := "barograph/barographlaw17.MergeTombs", spec := "mergeTombs", unfollowed := true, recurses := true, apart := false }
def MergeTombsSaid : Prop := mergeTombsRow.holds Tryz.pinned (OpenSpec.ofChange mergeTombsSpec)

/-- ITS FALSE NEIGHBOUR: 'it returns false'. Refute it at one input. -/
def mergeTombsWrong : ChangeSpec := { name := "mergeTombs", fn := fun _ => fun
  | [d] => { results := [.lit (.bool false)], args := [d] }
  | _ => none }
def MergeTombsWrongFalsely : Prop := mergeTombsRow.holds Tryz.pinned (OpenSpec.ofChange mergeTombsWrong)

/-- 'barographlaw17.MergeSeries': WHATEVER THE INPUT: true; the input reads as it did. -/
def mergeSeriesSpec : ChangeSpec := { name := "mergeSeries", fn := fun _ => fun
  | [d1, d2, d3] => { results := [.lit (.bool true)], args := [d1, d2, d3] }
  | _ => none }
def mergeSeriesRow : OpenClaim := { program := "ytihidnmpngeohaagreat", sum := "7022d3c3af4af07bbe6e6759cb6cbeb54987be437062dd6497ddc12c4fb148cc", func := "barograph/barographlaw17.MergeSeries", spec := "mergeSeries", unfollowed := true, recurses := true, apart := false }
def MergeSeriesSaid : Prop := mergeSeriesRow.holds Tryz.pinned (OpenSpec.ofChange mergeSeriesSpec)

/-- ITS FALSE NEIGHBOUR: 'it returns false'. Refute it at one input. -/
def mergeSeriesWrong : ChangeSpec := { name := "mergeSeries", fn := fun _ => fun
  | [d1, d2, d3] => { results := [.lit (.bool false)], args := [d1, d2, d3] }
  | _ => none }
def MergeSeriesWrongFalsely : Prop := mergeSeriesRow.holds Tryz.pinned (OpenSpec.ofChange mergeSeriesWrong)

/-- 'barographlaw19.CompactBlocks': WHATEVER THE INPUT: true; the input reads as it did. -/
def compactBlocksSpec : ChangeSpec := { name := "compactBlocks", fn := fun _ => fun
  | [d1, d2] => { results := [.lit (.bool true)], args := [d1, d2] }
  | _ => none }
def compactBlocksRow : OpenClaim := { program := "ytihidnmpngeohaagreat", sum := "7022d3c3af4af07bbe6e6759cb6cbeb54987be437062dd6497ddc12c4fb148cc", func := "barograph/barographlaw19.CompactBlocks", spec := "compactBlocks", unfollowed := true, recurses := true, apart := false }
def CompactBlocksSaid : Prop := compactBlocksRow.holds Tryz.pinned (OpenSpec.ofChange compactBlocksSpec)

/-- ITS FALSE NEIGHBOUR: 'it returns false'. Refute it at one input. -/
def compactBlocksWrong : ChangeSpec := { name := "compactBlocks", fn := fun _ => fun
  | [d1, d2] => { results := [.lit (.bool false)], args := [d1, d2] }
  | _ => none }
def CompactBlocksWrongFalsely : Prop := compactBlocksRow.holds Tryz.pinned (OpenSpec.ofChange compactBlocksWrong)

/- THE SECOND FORM. 'bulk': how many values and letters a reading holds, each counted each time it is reached (what is shared counts as often as it is met; a slice's spare places count too). A statement '..UptoSaid' is the law's where the arguments, and the package variables that the reading takes, are together of bulk at most 1048576: NARROWER than '..Said'. Prove '..Said' where nothing that the law and all that it calls make is longer than what came in: it says more and counts as full. Else prove '..UptoSaid'. A law counts once. -/
mutual
def uptoBulk {H : Type} : DataW H → Nat
  | .lit (.string bytes) => bytes.length + 1
  | .lit _ => 1
  | .nil => 1
  | .ptr d => uptoBulk d + 1
  | .slice elems spare => uptoBulkAll elems + uptoBulkAll spare + 1
  | .agg parts => uptoBulkAll parts + 1
  | .iface _ d => uptoBulk d + 1
  | .map entries => uptoBulkEntries entries + 1
  | .held _ => 1
def uptoBulkAll {H : Type} : List (DataW H) → Nat
  | [] => 0
  | d :: r => uptoBulk d + uptoBulkAll r
def uptoBulkEntries {H : Type} : List (Lit × DataW H) → Nat
  | [] => 0
  | x :: r => uptoBulkEntry x + uptoBulkEntries r
def uptoBulkEntry {H : Type} : Lit × DataW H → Nat
  | (.string bytes, d) => bytes.length + uptoBulk d + 1
  | (_, d) => uptoBulk d + 1
 end
def uptoSmall : (H : Type) → List (DataW H) → Bool := fun _ ds => decide (uptoBulkAll ds ≤ 1048576)
def OpenSpec.upto (s : _root_.Go.ChangeSpec) : _root_.Go.OpenSpec := { _root_.Go.OpenSpec.ofChange s with cond := some uptoSmall }

/-- 'barographlaw17.MergeTombs', WHERE WHAT IT READS IS OF BULK AT MOST 1048576: true; the input reads as it did. -/
def mergeTombsUptoRow : OpenClaim := { program := "ytihidnmpngeohaagreat", sum := "7022d3c3af4af07bbe6e6759cb6cbeb54987be437062dd6497ddc12c4fb148cc", func := "barograph/barographlaw17.MergeTombs", spec := "mergeTombs", unfollowed := true, recurses := true, apart := false, narrowed := true }
def MergeTombsUptoSaid : Prop := mergeTombsUptoRow.holds Tryz.pinned (OpenSpec.upto mergeTombsSpec)

/-- 'barographlaw17.MergeSeries', WHERE WHAT IT READS IS OF BULK AT MOST 1048576: true; the input reads as it did. -/
def mergeSeriesUptoRow : OpenClaim := { program := "ytihidnmpngeohaagreat", sum := "7022d3c3af4af07bbe6e6759cb6cbeb54987be437062dd6497ddc12c4fb148cc", func := "barograph/barographlaw17.MergeSeries", spec := "mergeSeries", unfollowed := true, recurses := true, apart := false, narrowed := true }
def MergeSeriesUptoSaid : Prop := mergeSeriesUptoRow.holds Tryz.pinned (OpenSpec.upto mergeSeriesSpec)

/-- 'barographlaw19.CompactBlocks', WHERE WHAT IT READS IS OF BULK AT MOST 1048576: true; the input reads as it did. -/
def compactBlocksUptoRow : OpenClaim := { program := "ytihidnmpngeohaagreat", sum := "7022d3c3af4af07bbe6e6759cb6cbeb54987be437062dd6497ddc12c4fb148cc", func := "barograph/barographlaw19.CompactBlocks", spec := "compactBlocks", unfollowed := true, recurses := true, apart := false, narrowed := true }
def CompactBlocksUptoSaid : Prop := compactBlocksUptoRow.holds Tryz.pinned (OpenSpec.upto compactBlocksSpec)

end Rows
end Go.Proofs.YtihidnmpngeohaaGreat
