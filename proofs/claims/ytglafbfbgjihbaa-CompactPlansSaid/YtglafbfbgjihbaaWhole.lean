/- SameMetas, WholeMetas, SpoilMetas. -/
import Derived.Test.YtglafbfbgjihbaaLent
import Derived.BigQuiet
namespace Go.Proofs.Ytglafbfbgjihbaa
open Go.RowKit Go.Lib

set_option maxHeartbeats 2000000 in
theorem sameMetas_eq (A B : Option Addr) (n ca cb : Nat) (l : List Mt) (w : World) (ha : Lst Mt.cells 5 w w.heap.size A n l) (hb : Lst Mt.cells 5 w w.heap.size B n l) (hbig : n ≤ 1000000000) :
    Calls Try.prog 35 #[.slice A n ca, .slice B n cb] w fun e w' => e = .returned (.bool true) ∧ Below w.heap.size w w' := by
  have HA := Lib.hid ha
  have HB := Lib.hid hb
  clear ha hb
  go_enter Try.func35, Try.ntmps35
  go_wp2
  go_loopw [5] (fun i wr => ∃ k : Nat, k ≤ n ∧ i = .int .i64 k ∧ Below w.heap.size w wr) (fun i _ => n - (intOf i).toNat)
  case atStart => exact ⟨0, Nat.zero_le _, rfl, Below.refl _ _⟩
  case round =>
    obtain ⟨k, hk, rfl, hbl⟩ := hrel
    by_cases hlt : k < n
    · obtain ⟨b, off, m, rfl, hbb, hm, hc⟩ := HA.out.at hlt
      obtain ⟨b2, off2, m2, rfl, hbb2, hm2, hc2⟩ := HB.out.at hlt
      obtain rfl : m = m2 := by rw [hm] at hm2; exact Option.some.inj hm2
      have c0 := (hbl.cell (p := ⟨b, off + k * 5 + 0, none⟩) hbb).trans (hc 0 _ rfl)
      have c1 := (hbl.cell (p := ⟨b, off + k * 5 + 1, none⟩) hbb).trans (hc 1 _ rfl)
      have c2 := (hbl.cell (p := ⟨b, off + k * 5 + 2, none⟩) hbb).trans (hc 2 _ rfl)
      have c3 := (hbl.cell (p := ⟨b, off + k * 5 + 3, none⟩) hbb).trans (hc 3 _ rfl)
      have c4 := (hbl.cell (p := ⟨b, off + k * 5 + 4, none⟩) hbb).trans (hc 4 _ rfl)
      have d0 := (hbl.cell (p := ⟨b2, off2 + k * 5 + 0, none⟩) hbb2).trans (hc2 0 _ rfl)
      have d1 := (hbl.cell (p := ⟨b2, off2 + k * 5 + 1, none⟩) hbb2).trans (hc2 1 _ rfl)
      have d2 := (hbl.cell (p := ⟨b2, off2 + k * 5 + 2, none⟩) hbb2).trans (hc2 2 _ rfl)
      have d3 := (hbl.cell (p := ⟨b2, off2 + k * 5 + 3, none⟩) hbb2).trans (hc2 3 _ rfl)
      have d4 := (hbl.cell (p := ⟨b2, off2 + k * 5 + 4, none⟩) hbb2).trans (hc2 4 _ rfl)
      simp only [Nat.add_zero] at c0 d0
      clear hm hm2 hc hc2
      go_wp2_with (go_quiet (fail))
      go_roundw
      case measure => simp [intOf]; omega
      case rel => exact ⟨k + 1, hlt, by simp, below_drewN hbl _⟩
    · go_wp2
      go_ret
      exact ⟨rfl, hbl⟩
set_option maxHeartbeats 2000000 in
theorem whole_eq (g c : Nat) (B : Option Addr) (n cb : Nat) (l : List Mt) (w : World) (ha : Lst Mt.cells 5 w w.heap.size (some ⟨g, 0, none⟩) (n + 2) (l ++ [mA, mB])) (hc : n + 2 ≤ c) (hb : Lst Mt.cells 5 w w.heap.size B n l) (hbig : n ≤ 1000000000) :
    Calls Try.prog 10 #[.slice (some ⟨g, 0, none⟩) n c, .slice B n cb] w fun e w' => e = .returned (.bool true) ∧ Below w.heap.size w w' := by
  have hl := hb.1
  obtain ⟨b, off, e, hbb, hcc⟩ := ha.2 (by omega)
  cases e
  have hA : (l ++ [mA, mB])[n]? = some mA := by rw [List.getElem?_append_right (by omega), hl]; simp
  have hB : (l ++ [mA, mB])[n + 1]? = some mB := by rw [List.getElem?_append_right (by omega), hl]; simp
  have c0 := hcc n _ hA 0 _ rfl
  have c1 := hcc n _ hA 1 _ rfl
  have c2 := hcc n _ hA 2 _ rfl
  have c3 := hcc n _ hA 3 _ rfl
  have c4 := hcc n _ hA 4 _ rfl
  have d0 := hcc (n + 1) _ hB 0 _ rfl
  have d1 := hcc (n + 1) _ hB 1 _ rfl
  have d2 := hcc (n + 1) _ hB 2 _ rfl
  have d3 := hcc (n + 1) _ hB 3 _ rfl
  have d4 := hcc (n + 1) _ hB 4 _ rfl
  simp only [Nat.zero_add, Nat.add_zero, mA, mB] at c0 c1 c2 c3 c4 d0 d1 d2 d3 d4
  have hown : Lst Mt.cells 5 w w.heap.size (some ⟨g, 0, none⟩) n l := by
    have := ha.take (k := n) (by omega)
    rwa [List.take_append_of_le_length (by omega), List.take_of_length_le (by omega)] at this
  have HS := Lib.hid (sameMetas_eq (some ⟨g, 0, none⟩) B n c cb l w hown hb hbig)
  clear hown ha hb hcc hA hB hl
  have hci : (n : Int) + 2 ≤ (c : Int) := by omega
  go_enter Try.func10, Try.ntmps10
  go_wp2_with fail
  refine HS.out.mono ?_
  rintro e w' ⟨rfl, hb⟩
  go_wp2
  go_ret
  exact ⟨rfl, hb⟩
end Go.Proofs.Ytglafbfbgjihbaa
