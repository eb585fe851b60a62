/- SameInts: whether two rows of numbers are the same. -/
import Derived.Test.YtglafbfbgjihbaaNext
import Derived.BigQuiet
namespace Go.Proofs.Ytglafbfbgjihbaa
open Go.RowKit

set_option maxHeartbeats 400000 in
theorem same_any (A B : Option Addr) (n m ca cb : Nat) (la lb : List Int) (w : World) (ha : Ints w w.heap.size A n la) (hb : Ints w w.heap.size B m lb) (hbig : n ≤ 1099511627776) (hbig2 : m ≤ 1099511627776) :
    Calls Try.prog 15 #[.slice A n ca, .slice B m cb] w fun e w' => e = .returned (.bool (decide (la = lb))) ∧ Below w.heap.size w w' := by
  go_enter Try.func15, Try.ntmps15
  by_cases hnm : n = m
  · subst hnm
    go_wp2
    go_loopw [5] (fun i wr => ∃ k : Nat, k ≤ n ∧ i = .int .i64 k ∧ la.take k = lb.take k ∧ Below w.heap.size w wr) (fun i _ => n - (intOf i).toNat)
    case atStart => exact ⟨0, Nat.zero_le _, rfl, rfl, Below.refl _ _⟩
    case round =>
      obtain ⟨k, hk, rfl, hs, hbl⟩ := hrel
      by_cases hlt : k < n
      · obtain ⟨b, off, x, rfl, hbb, hx, hc⟩ := ha.at hlt
        obtain ⟨b2, off2, y, rfl, hbb2, hy, hc2⟩ := hb.at hlt
        have c0 := (hbl.cell (p := ⟨b, off + k * 1 + 0, none⟩) hbb).trans (hc 0 _ rfl)
        have c1 := (hbl.cell (p := ⟨b2, off2 + k * 1 + 0, none⟩) hbb2).trans (hc2 0 _ rfl)
        simp only [Nat.add_zero, Nat.mul_one] at c0 c1
        have HX := Lib.hid hx
        have HY := Lib.hid hy
        have HS := Lib.hid hs
        clear hx hy hs hc hc2
        by_cases hxy : x = y
        · subst hxy
          go_wp2_with (go_quiet (fail))
          go_roundw
          case measure => simp [intOf]; omega
          case rel => exact ⟨k + 1, hlt, by simp, by rw [List.take_add_one, List.take_add_one, HX.out, HY.out, HS.out], below_drewN hbl _⟩
        · have hne : la ≠ lb := fun e => hxy (by have h1 := HX.out; have h2 := HY.out; rw [e, h2] at h1; exact (Option.some.inj h1).symm)
          go_wp2_with (go_quiet (fail))
          go_ret
          exact ⟨by simp [hne], below_drewN hbl _⟩
      · have heq : la = lb := by
          rw [← List.take_of_length_le (l := la) (i := k) (by have := ha.1; omega), hs, List.take_of_length_le (by have := hb.1; omega)]
        go_wp2
        go_ret
        exact ⟨by simp [heq], hbl⟩
  · have hne : la ≠ lb := fun e => hnm (by have := ha.1; have := hb.1; subst e; omega)
    go_wp2
    go_ret
    exact ⟨by simp [hne], Below.refl _ _⟩
end Go.Proofs.Ytglafbfbgjihbaa
