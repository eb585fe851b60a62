/- Arguments that are lists of labels. -/
import Derived.Test.YtchggapclmdpaaaGreatDoorArgs
import Derived.Test.YtchggapclmdpaaaGreatDoorLabCmp
import Derived.ProofKit
import Derived.ChangeSame
namespace Go.Proofs.YtchggapclmdpaaaGreatDoor
open Go.RowKit Go.Lib Go.ChangeShapes Go.WideShapes

section
variable {H : Type} {en : TypeId × Value → H} {w : World} {base : Nat} {spare : Nat → Bool} {held : Bool}
set_option maxRecDepth 100000 in
/-- A label that came in. -/
theorem dec_label (k : Nat) (cs : List Value) (y : DataW H × List MemPlace) (hl : cs.length = 2) (h : DataW.trod en Tryz.prog w base spare held k 94 cs = some y) : ∃ x : Lb, cs = x.cells ∧ (x.nm.size ≤ maxLen ∧ x.vl.size ≤ maxLen) := by
  obtain ⟨xs, n, _, _, _, hxl, hf⟩ := DataW.trod_struct Tryz.underlying94 h
  have hxl' : xs.length = 2 := hxl
  have h1 : Tryz.prog.cellsOf 9 = 1 := by kernel_rfl
  match cs, hl, xs, hxl' with
  | [c0, c1], _, [y0, y1], _ =>
    have f0 := hf 0 _ rfl
    have f1 := hf 1 _ rfl
    obtain ⟨s0, e0, _, z0⟩ := DataW.trod_string Tryz.underlying9 f0
    obtain ⟨s1, e1, _, z1⟩ := DataW.trod_string Tryz.underlying9 f1
    have g0 : [c0] = [.string s0] := e0
    have g1 : [c1] = [.string s1] := e1
    obtain rfl : c0 = .string s0 := by simpa using g0
    obtain rfl : c1 = .string s1 := by simpa using g1
    exact ⟨⟨s0, s1⟩, rfl, z0, z1⟩
end
end Go.Proofs.YtchggapclmdpaaaGreatDoor
