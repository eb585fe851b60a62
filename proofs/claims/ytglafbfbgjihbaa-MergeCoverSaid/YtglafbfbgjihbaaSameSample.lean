/- SameSamples at two lists that are one. Written off a master by mk2.py. -/
import Derived.Test.YtglafbfbgjihbaaCloneSample
import Derived.BigQuiet
namespace Go.Proofs.Ytglafbfbgjihbaa
open Go.RowKit Go.Lib

set_option maxHeartbeats 2000000 in
theorem sameSample_eq (A B : Option Addr) (n ca cb : Nat) (l : List (Int × Int)) (w : World) (ha : Lst encS 2 w w.heap.size A n l) (hb : Lst encS 2 w w.heap.size B n l) (hbig : n ≤ 1000000000) :
    Calls Try.prog 25 #[.slice A n ca, .slice B n cb] w fun e w' => e = .returned (.bool true) ∧ Below w.heap.size w w' := by
  have HA := Lib.hid ha
  have HB := Lib.hid hb
  clear ha hb
  go_enter Try.func25, Try.ntmps25
  go_wp2
  go_loopw [5] (fun i wr => ∃ k : Nat, k ≤ n ∧ i = .int .i64 k ∧ Below w.heap.size w wr) (fun i _ => n - (intOf i).toNat)
  case atStart => exact ⟨0, Nat.zero_le _, rfl, Below.refl _ _⟩
  case round =>
    obtain ⟨k, hk, rfl, hbl⟩ := hrel
    by_cases hlt : k < n
    · obtain ⟨b, off, m, rfl, hbb, hm, hc⟩ := HA.out.at hlt
      obtain ⟨b2, off2, m2, rfl, hbb2, hm2, hc2⟩ := HB.out.at hlt
      obtain rfl : m = m2 := by rw [hm] at hm2; exact Option.some.inj hm2
      have c0 := (hbl.cell (p := ⟨b, off + k * 2 + 0, none⟩) hbb).trans (hc 0 _ rfl)
      have c1 := (hbl.cell (p := ⟨b, off + k * 2 + 1, none⟩) hbb).trans (hc 1 _ rfl)
      have d0 := (hbl.cell (p := ⟨b2, off2 + k * 2 + 0, none⟩) hbb2).trans (hc2 0 _ rfl)
      have d1 := (hbl.cell (p := ⟨b2, off2 + k * 2 + 1, none⟩) hbb2).trans (hc2 1 _ rfl)
      simp only [Nat.add_zero] at c0 d0
      clear hm hm2 hc hc2
      go_wp2_with (go_quiet (fail))
      go_roundw
      case measure => simp [intOf]; omega
      case rel => exact ⟨k + 1, hlt, by simp, below_drewN hbl _⟩
    · go_wp2
      go_ret
      exact ⟨rfl, hbl⟩
end Go.Proofs.Ytglafbfbgjihbaa
