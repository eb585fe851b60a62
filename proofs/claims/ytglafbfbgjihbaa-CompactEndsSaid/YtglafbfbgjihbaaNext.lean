/- compact.Next: the next block's number. -/
import Derived.Test.YtglafbfbgjihbaaPlanCmp
namespace Go.Proofs.Ytglafbfbgjihbaa
open Go.RowKit

def maxId (l : List Mt) : Int := l.foldl (fun n m => max n m.id) 0
theorem maxId_snoc (l : List Mt) (k : Nat) (m : Mt) (h : l[k]? = some m) : maxId (l.take (k + 1)) = max (maxId (l.take k)) m.id := by
  unfold maxId
  rw [List.take_add_one, h]
  simp only [Option.toList_some, List.foldl_append, List.foldl_cons, List.foldl_nil]
set_option maxHeartbeats 400000 in
theorem next_any (A : Option Addr) (n c : Nat) (l : List Mt) (w : World) (hr : Lst Mt.cells 5 w w.heap.size A n l) (hbig : n ≤ 1099511627776) :
    Calls Try.prog 9 #[.slice A n c] w fun e w' => e = .returned (.int .u32 ((maxId l + 1) % 4294967296)) ∧ Below w.heap.size w w' := by
  go_enter Try.func9, Try.ntmps9
  go_wp2
  go_loopw [3, 8] (fun t i wr => ∃ k : Nat, k ≤ n ∧ i = .int .i64 k ∧ t = .int .u32 (maxId (l.take k)) ∧ Below w.heap.size w wr) (fun _ i _ => n - (intOf i).toNat)
  case atStart => exact ⟨0, Nat.zero_le _, rfl, rfl, Below.refl _ _⟩
  case round =>
    obtain ⟨k, hk, rfl, rfl, hbl⟩ := hrel
    by_cases hlt : k < n
    · obtain ⟨b, off, m, rfl, hb, hm, hc⟩ := hr.at hlt
      have c0 := (hbl.cell (p := ⟨b, off + k * 5 + 0, none⟩) hb).trans (hc 0 _ rfl)
      have c1 := (hbl.cell (p := ⟨b, off + k * 5 + 1, none⟩) hb).trans (hc 1 _ rfl)
      have c2 := (hbl.cell (p := ⟨b, off + k * 5 + 2, none⟩) hb).trans (hc 2 _ rfl)
      have c3 := (hbl.cell (p := ⟨b, off + k * 5 + 3, none⟩) hb).trans (hc 3 _ rfl)
      have c4 := (hbl.cell (p := ⟨b, off + k * 5 + 4, none⟩) hb).trans (hc 4 _ rfl)
      simp only [Nat.add_zero] at c0
      have hs := maxId_snoc l k m hm
      generalize maxId (l.take k) = mk at hs ⊢
      have Hs := Lib.hid hs
      have Hm := Lib.hid hm
      clear hs hm hr hc
      go_wp2
      go_roundw
      case measure => simp [intOf]; omega
      case rel => exact ⟨k + 1, hlt, by simp, by rw [Hs.out], hbl.alloc hbl.size _⟩
    · go_wp2
      have hall : l.take k = l := List.take_of_length_le (by have := hr.1; omega)
      rw [hall]
      go_ret
      exact ⟨rfl, hbl⟩
end Go.Proofs.Ytglafbfbgjihbaa
