/- Lists of texts: what the walks over them ask. Written by mk1.py. -/
import Derived.Test.YtchggapclmdpaaaGreatDoorGe
import Derived.Test.YtchggapclmdpaaaGreatDoorGb
namespace Go.Proofs.YtchggapclmdpaaaGreatDoor
open Go.RowKit Go.Lib

abbrev encTx (x : ByteArray) : List Value := [.string x]
theorem encTx_len (x : ByteArray) : (encTx x).length = 1 := rfl
theorem Tryz.infoText1 : (Tryz.prog.info? 9).map (fun i => (i.zero, i.size, i.bytes)) = some (some (.string ByteArray.empty), 1, 16) := by kernel_rfl
theorem oneTx (l : List ByteArray) : ∀ u ∈ l.flatMap encTx, u.oneCell' = true := by
  intro u hu
  obtain ⟨m, _, h⟩ := List.mem_flatMap.1 hu
  simp only [encTx, List.mem_cons, List.not_mem_nil, or_false] at h
  subst h
  rfl
theorem below_drewTx {w w' : World} (h : ∃ q, w' = w.drewN q) : Below w.heap.size w w' := by
  obtain ⟨q, rfl⟩ := h
  exact below_drewN (Below.refl _ _) q
set_option maxHeartbeats 2000000 in
theorem sameTx_q (A B : Option Addr) (n ca cb : Nat) (l : List (ByteArray)) (w : World) (ha : Lst encTx 1 w w.heap.size A n l) (hb : Lst encTx 1 w w.heap.size B n l) (hbig : n ≤ 1000000000) :
    Calls Tryz.prog 112 #[.slice A n ca, .slice B n cb] w fun e w' => e = .returned (.bool true) ∧ ∃ q, w' = w.drewN q := by
  have HA := Lib.hid ha
  have HB := Lib.hid hb
  clear ha hb
  go_enter Tryz.func112, Tryz.ntmps112
  go_wp2
  go_loopw [5] (fun i wr => ∃ k q : Nat, k ≤ n ∧ i = .int .i64 k ∧ wr = w.drewN q) (fun i _ => n - (intOf i).toNat)
  case atStart => exact ⟨0, 0, Nat.zero_le _, rfl, rfl⟩
  case round =>
    obtain ⟨k, q, hk, rfl, rfl⟩ := hrel
    by_cases hlt : k < n
    · obtain ⟨b, off, m, rfl, hbb, hm, hc⟩ := HA.out.at hlt
      obtain ⟨b2, off2, m2, rfl, hbb2, hm2, hc2⟩ := HB.out.at hlt
      obtain rfl : m = m2 := by rw [hm] at hm2; exact Option.some.inj hm2
      have c0 := hc 0 _ rfl
      have d0 := hc2 0 _ rfl
      simp only [Nat.add_zero, Nat.mul_one] at c0 d0
      have e0 : (m.toList == m.toList) = true := by simp
      clear hm hm2 hc hc2
      go_wp2_with (go_quiet (fail))
      go_roundw
      case measure => simp [intOf]; omega
      case rel => exact ⟨k + 1, _, hlt, by simp, by first | rfl | exact World.drewN_drewN _ _ _⟩
    · go_wp2
      go_ret
      exact ⟨rfl, q, rfl⟩
theorem sameTx_eq (A B : Option Addr) (n ca cb : Nat) (l : List (ByteArray)) (w : World) (ha : Lst encTx 1 w w.heap.size A n l) (hb : Lst encTx 1 w w.heap.size B n l) (hbig : n ≤ 1000000000) :
    Calls Tryz.prog 112 #[.slice A n ca, .slice B n cb] w fun e w' => e = .returned (.bool true) ∧ Below w.heap.size w w' :=
  (sameTx_q A B n ca cb l w ha hb hbig).mono fun _ _ ⟨h1, h2⟩ => ⟨h1, below_drewTx h2⟩
end Go.Proofs.YtchggapclmdpaaaGreatDoor
