/- Arguments that are lists of texts. -/
import Derived.Test.YtchggapclmdpaaaGreatDoorGg
import Derived.Test.YtchggapclmdpaaaGreatDoorSameTx
import Derived.ProofKit
import Derived.ChangeSame
namespace Go.Proofs.YtchggapclmdpaaaGreatDoor
open Go.RowKit Go.Lib Go.ChangeShapes Go.WideShapes

section
variable {H : Type} {en : TypeId × Value → H} {w : World} {base : Nat} {spare : Nat → Bool} {held : Bool}
/-- A text that came in. -/
theorem dec_text (k : Nat) (cs : List Value) (y : DataW H × List MemPlace) (_ : cs.length = 1) (h : DataW.trod en Tryz.prog w base spare held k 9 cs = some y) : ∃ x : ByteArray, cs = encTx x ∧ x.size ≤ maxLen := by
  obtain ⟨s, e, _, z⟩ := DataW.trod_string Tryz.underlying9 h
  exact ⟨s, e, z⟩
end
end Go.Proofs.YtchggapclmdpaaaGreatDoor
