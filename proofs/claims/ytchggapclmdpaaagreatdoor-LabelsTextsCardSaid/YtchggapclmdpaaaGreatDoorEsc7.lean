/- text.escape: what stands behind a backslash. -/
import Derived.Test.YtchggapclmdpaaaGreatDoorGh
import Derived.Test.YtchggapclmdpaaaGreatDoorShelf9
import Derived.Test.YtchggapclmdpaaaGreatDoorGd
namespace Go.Proofs.YtchggapclmdpaaaGreatDoor
open Go.RowKit Go.Lib

theorem runeCells_bytes (r : Int) : Lib.runeCells r = bytesV (Lib.encodeRune r) := by
  unfold Lib.runeCells Lib.encodeRune bytesV
  rw [List.map_map]
  apply List.map_congr_left
  intro x hx
  have h := Lib.encodeRuneZ_byte r x hx
  simp only [Function.comp]
  rw [show ((x.toNat.toUInt8).toNat : Int) = x by
    rw [Nat.toUInt8, UInt8.toNat_ofNat_of_lt' (by show x.toNat < 256; omega)]
    omega]
theorem encodeRune_length (r : Int) : (Lib.encodeRune r).length ≤ 4 := by
  unfold Lib.encodeRune Lib.encodeRuneZ
  rw [List.length_map]
  split <;> (try split) <;> (try split) <;> (try split) <;> simp
/-- What escape leaves. -/
def EscPost (a b : Addr) (l : List UInt8) (w : World) (e : Ending) (w' : World) : Prop :=
  ((∃ (x : List UInt8) (k : Nat) (v : Value), escR l = some (x, k) ∧ e = .returned (.tuple #[v, .int .i64 k, .nilIface]) ∧ w'.ownsRow w.heap.size 5 1 v x.length (bytesV x)) ∨ (escR l = none ∧ ∃ v, ErrOf a b v ∧ e = .returned (.tuple #[.slice none 0 0, .int .i64 0, v]))) ∧ Below w.heap.size w w'
theorem escR_simple {c : UInt8} {r : List UInt8} {v : UInt8} (h : 0 ≤ simpleV c) (h2 : UInt8.ofNat (simpleV c).toNat = v) : escR (c :: r) = some ([v], 1) := by
  rw [escR, if_pos h, h2]
theorem escR_num {c : UInt8} {r : List UInt8} {need base from_ most : Nat} (h : ¬ 0 ≤ simpleV c) (h2 : escK c = some (need, base, from_, most)) : escR (c :: r) = match numR need base ((c :: r).drop from_) 0 with
      | none => none
      | some n => match outR most n with
        | none => none
        | some x => some (x, from_ + need) := by
  rw [escR, if_neg h, h2]
  rfl
theorem escR_none {c : UInt8} {r : List UInt8} (h : ¬ 0 ≤ simpleV c) (h2 : escK c = none) : escR (c :: r) = none := by
  rw [escR, if_neg h, h2]
theorem first_byte {s : ByteArray} {c : UInt8} {r : List UInt8} (hs : s.data.toList = c :: r) (hpos : 0 < s.size) : s[0]'hpos = c := by
  have h1 : s.data.toList[0]? = some c := by rw [hs]; rfl
  obtain ⟨h2, h3⟩ := List.getElem?_eq_some_iff.1 h1
  exact h3
theorem u8_nat (n : Nat) (h : n ≤ 255) : IntKind.u8.wrap (n : Int) = (n : Int) := u8_in _ (by omega)
theorem i32_nat (n : Nat) (h : n ≤ 2147483647) : IntKind.i32.wrap (n : Int) = (n : Int) := by
  unfold IntKind.wrap
  simp [IntKind.signed, IntKind.bits]
  omega

end Go.Proofs.YtchggapclmdpaaaGreatDoor
