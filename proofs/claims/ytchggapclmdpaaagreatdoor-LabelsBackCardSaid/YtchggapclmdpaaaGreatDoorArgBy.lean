/- Arguments that are bytes, or lists of texts. -/
import Derived.Test.YtchggapclmdpaaaGreatDoorGg
import Derived.Test.YtchggapclmdpaaaGreatDoorGr
import Derived.ProofKit
import Derived.ChangeSame
namespace Go.Proofs.YtchggapclmdpaaaGreatDoor
open Go.RowKit Go.Lib Go.ChangeShapes Go.WideShapes

section
variable {H : Type} {en : TypeId × Value → H} {w : World} {base : Nat} {spare : Nat → Bool} {held : Bool}
/-- A byte that came in. -/
theorem dec_byte (k : Nat) (cs : List Value) (y : DataW H × List MemPlace) (_ : cs.length = 1) (h : DataW.trod en Tryz.prog w base spare held k 5 cs = some y) : ∃ x : UInt8, cs = encBy x ∧ True := by
  obtain ⟨q, rfl, _, hw⟩ := DataW.trod_int Tryz.underlying5 h
  obtain ⟨h1, h2⟩ := Bool.and_eq_true_iff.1 hw
  have h3 : (0 : Int) ≤ q := of_decide_eq_true h1
  have h4 : q ≤ (255 : Int) := of_decide_eq_true h2
  refine ⟨UInt8.ofNat q.toNat, ?_, trivial⟩
  have e : ((UInt8.ofNat q.toNat).toNat : Int) = q := by
    rw [UInt8.toNat_ofNat_of_lt' (by show q.toNat < 256; omega)]
    omega
  show [Value.int .u8 q] = [Value.int .u8 ((UInt8.ofNat q.toNat).toNat : Int)]
  rw [e]
end
end Go.Proofs.YtchggapclmdpaaaGreatDoor
