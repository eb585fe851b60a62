/- The reference of chapter 19: many, Next. -/
import Derived.Test.YtglafbfbgjihbaaNext
import Derived.Test.YtglafbfbgjihbaaPlanLaw
namespace Go.Proofs.Ytglafbfbgjihbaa
open Go.RowKit

set_option maxHeartbeats 400000 in
theorem refNext_any (A : Option Addr) (n c : Nat) (l : List Mt) (w : World) (hr : Lst Mt.cells 5 w w.heap.size A n l) (hbig : n ≤ 1099511627776) :
    Calls Try.prog 16 #[.slice A n c] w fun e w' => e = .returned (.int .u32 ((maxId l + 1) % 4294967296)) ∧ Below w.heap.size w w' := by
  go_enter Try.func16, Try.ntmps16
  go_wp2
  go_loopw [3, 4] (fun t i wr => ∃ k : Nat, k ≤ n ∧ i = .int .i64 k ∧ t = .int .u32 (maxId (l.take k)) ∧ Below w.heap.size w wr) (fun _ i _ => n - (intOf i).toNat)
  case atStart => exact ⟨0, Nat.zero_le _, rfl, rfl, Below.refl _ _⟩
  case round =>
    obtain ⟨k, hk, rfl, rfl, hbl⟩ := hrel
    by_cases hlt : k < n
    · obtain ⟨b, off, m, rfl, hb, hm, hc⟩ := hr.at hlt
      have c0 := (hbl.cell (p := ⟨b, off + k * 5 + 0, none⟩) hb).trans (hc 0 _ rfl)
      simp only [Nat.add_zero] at c0
      have hs := maxId_snoc l k m hm
      generalize maxId (l.take k) = mk at hs ⊢
      have Hs := Lib.hid hs
      have Hm := Lib.hid hm
      clear hs hm hr hc
      go_wp2
      go_roundw
      case measure => simp [intOf]; omega
      case rel => exact ⟨k + 1, hlt, by simp, by rw [Hs.out], hbl⟩
    · go_wp2
      have hall : l.take k = l := List.take_of_length_le (by have := hr.1; omega)
      rw [hall]
      go_ret
      exact ⟨rfl, hbl⟩

set_option maxHeartbeats 400000 in
theorem many_any (A : Option Addr) (n c : Nat) (l : List Mt) (lv : Int) (w : World) (hr : Lst Mt.cells 5 w w.heap.size A n l) (hbig : n ≤ 1099511627776) :
    Calls Try.prog 36 #[.slice A n c, .int .i64 lv] w fun e w' => e = .returned (.int .i64 (manyOf l lv : Nat)) ∧ w' = w := by
  go_enter Try.func36, Try.ntmps36
  go_wp2
  go_loop [5, 6] (fun t i => ∃ k : Nat, k ≤ n ∧ i = .int .i64 k ∧ t = .int .i64 ((idxs l k lv).length : Nat)) (fun _ i => n - (intOf i).toNat)
  case atStart => exact ⟨0, Nat.zero_le _, rfl, rfl⟩
  case round =>
    obtain ⟨k, hk, rfl, rfl⟩ := hrel
    by_cases hlt : k < n
    · obtain ⟨b, off, m, rfl, hb, hm, hc⟩ := hr.at hlt
      have c4 := hc 4 _ rfl
      have hs := congrArg List.length (idxs_succ l k m hm lv)
      have hle := idxs_le l k lv
      have Hm := Lib.hid hm
      by_cases hlv : m.level = lv
      · rw [if_pos hlv] at hs
        simp only [List.length_append, List.length_cons, List.length_nil, Nat.zero_add] at hs
        rw [hlv] at c4
        generalize idxs l k lv = zj at hs hle ⊢
        have Hs := Lib.hid hs
        clear hs hm hr hc
        go_wp2
        go_round
        case measure => simp [intOf]; omega
        case rel => exact ⟨k + 1, hlt, by simp, by rw [Hs.out]; simp⟩
      · rw [if_neg hlv] at hs
        generalize idxs l k lv = zj at hs hle ⊢
        have Hs := Lib.hid hs
        clear hs hm hr hc
        go_wp2
        go_round
        case measure => simp [intOf]; omega
        case rel => exact ⟨k + 1, hlt, by simp, by rw [Hs.out]⟩
    · obtain rfl : k = n := by omega
      have hl := hr.1
      subst hl
      go_wp2
      go_ret
      exact ⟨rfl, rfl⟩
end Go.Proofs.Ytglafbfbgjihbaa
