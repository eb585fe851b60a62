/- Patterns: a byte, as it stands in a class. -/
import Derived.Test.YtdpakjkldkddcaaG46
import Derived.Test.YtdpakjkldkddcaaRx6
namespace Go.Proofs.Ytdpakjkldkddcaa
open Go.RowKit Go.Lib
open RX (PS Tr Pr Stp Th)

theorem byte_parts (c : UInt8) : (0 ≤ c.toNat ∧ c.toNat ≤ 32) ∨ (33 ≤ c.toNat ∧ c.toNat ≤ 47) ∨ (48 ≤ c.toNat ∧ c.toNat ≤ 57) ∨ (58 ≤ c.toNat ∧ c.toNat ≤ 64) ∨ (65 ≤ c.toNat ∧ c.toNat ≤ 90) ∨ (91 ≤ c.toNat ∧ c.toNat ≤ 96) ∨ (97 ≤ c.toNat ∧ c.toNat ≤ 122) ∨ (123 ≤ c.toNat ∧ c.toNat ≤ 126) ∨ (127 ≤ c.toNat ∧ c.toNat ≤ 255) := by
  have := UInt8.toNat_lt c
  omega
set_option maxHeartbeats 8000000 in
set_option maxRecDepth 100000 in
theorem hex_any (c : UInt8) (w : World) : Calls Try.prog 8 #[.int .u8 c.toNat] w fun e w' => e = .returned (.string ⟨(RX.escB c).toArray⟩) ∧ Below w.heap.size w w' := by
  have hsg : RX.signC c = (decide (33 ≤ c.toNat ∧ c.toNat ≤ 126) && !(decide (97 ≤ c.toNat ∧ c.toNat ≤ 122) || decide (65 ≤ c.toNat ∧ c.toNat ≤ 90) || decide (48 ≤ c.toNat ∧ c.toNat ≤ 57))) := rfl
  have hcv1 : (convert 26 9 (.slice (some ⟨w.heap.size, 0, none⟩) 1 1)).run Try.prog (w.alloc (.cells #[.int .u8 c.toNat] 5)) = .ok (.string ⟨#[c]⟩) (w.alloc (.cells #[.int .u8 c.toNat] 5)) := own_text (l := [c]) (owns_fresh (Nat.zero_le _) 5 (bytesV [c]) (by unfold maxLen; simp [bytesV]))
  have hcv2 : (convert 26 9 (.slice (some ⟨w.heap.size, 0, none⟩) 2 2)).run Try.prog (w.alloc (.cells #[.int .u8 92, .int .u8 c.toNat] 5)) = .ok (.string ⟨#[92, c]⟩) (w.alloc (.cells #[.int .u8 92, .int .u8 c.toNat] 5)) := own_text (l := [92, c]) (owns_fresh (Nat.zero_le _) 5 (bytesV [92, c]) (by unfold maxLen; simp [bytesV]))
  have hb1 : Below w.heap.size w (w.alloc (.cells #[.int .u8 c.toNat] 5)) := (Below.refl _ _).alloc (Nat.le_refl _) _
  have hb2 : Below w.heap.size w (w.alloc (.cells #[.int .u8 92, .int .u8 c.toNat] 5)) := (Below.refl _ _).alloc (Nat.le_refl _) _
  have HB := Lib.hid (show _ ∧ _ from ⟨hb1, hb2⟩)
  clear hb1 hb2
  rcases byte_parts c with ⟨h1, h2⟩ | ⟨h1, h2⟩ | ⟨h1, h2⟩ | ⟨h1, h2⟩ | ⟨h1, h2⟩ | ⟨h1, h2⟩ | ⟨h1, h2⟩ | ⟨h1, h2⟩ | ⟨h1, h2⟩
  · have he : RX.escB c = [c] := by
      unfold RX.escB
      rw [if_neg (by rw [hsg]; simp; omega)]
    have t0 : ¬ ((97 : Int) ≤ ((c.toNat : Nat) : Int)) := by omega
    have t1 : (((c.toNat : Nat) : Int) ≤ (122 : Int)) := by omega
    have t2 : ¬ ((65 : Int) ≤ ((c.toNat : Nat) : Int)) := by omega
    have t3 : (((c.toNat : Nat) : Int) ≤ (90 : Int)) := by omega
    have t4 : ¬ ((48 : Int) ≤ ((c.toNat : Nat) : Int)) := by omega
    have t5 : (((c.toNat : Nat) : Int) ≤ (57 : Int)) := by omega
    have t6 : ¬ ((33 : Int) ≤ ((c.toNat : Nat) : Int)) := by omega
    have t7 : (((c.toNat : Nat) : Int) ≤ (126 : Int)) := by omega
    have HE := Lib.hid he
    clear h1 h2 hsg he
    go_enter Try.func8, Try.ntmps8
    go_wp2_with fail
    refine bodyPost_ret (v := .string ⟨#[c]⟩) (by simp [results, Try.results8, go_sem]) rfl ⟨?_, HB.out.1⟩
    rw [HE.out]
  · have he : RX.escB c = [92, c] := by
      unfold RX.escB
      rw [if_pos (by rw [hsg]; simp; omega)]
    have t0 : ¬ ((97 : Int) ≤ ((c.toNat : Nat) : Int)) := by omega
    have t1 : (((c.toNat : Nat) : Int) ≤ (122 : Int)) := by omega
    have t2 : ¬ ((65 : Int) ≤ ((c.toNat : Nat) : Int)) := by omega
    have t3 : (((c.toNat : Nat) : Int) ≤ (90 : Int)) := by omega
    have t4 : ¬ ((48 : Int) ≤ ((c.toNat : Nat) : Int)) := by omega
    have t5 : (((c.toNat : Nat) : Int) ≤ (57 : Int)) := by omega
    have t6 : ((33 : Int) ≤ ((c.toNat : Nat) : Int)) := by omega
    have t7 : (((c.toNat : Nat) : Int) ≤ (126 : Int)) := by omega
    have HE := Lib.hid he
    clear h1 h2 hsg he
    go_enter Try.func8, Try.ntmps8
    go_wp2_with fail
    refine bodyPost_ret (v := .string ⟨#[92, c]⟩) (by simp [results, Try.results8, go_sem]) rfl ⟨?_, HB.out.2⟩
    rw [HE.out]
  · have he : RX.escB c = [c] := by
      unfold RX.escB
      rw [if_neg (by rw [hsg]; simp; omega)]
    have t0 : ¬ ((97 : Int) ≤ ((c.toNat : Nat) : Int)) := by omega
    have t1 : (((c.toNat : Nat) : Int) ≤ (122 : Int)) := by omega
    have t2 : ¬ ((65 : Int) ≤ ((c.toNat : Nat) : Int)) := by omega
    have t3 : (((c.toNat : Nat) : Int) ≤ (90 : Int)) := by omega
    have t4 : ((48 : Int) ≤ ((c.toNat : Nat) : Int)) := by omega
    have t5 : (((c.toNat : Nat) : Int) ≤ (57 : Int)) := by omega
    have t6 : ((33 : Int) ≤ ((c.toNat : Nat) : Int)) := by omega
    have t7 : (((c.toNat : Nat) : Int) ≤ (126 : Int)) := by omega
    have HE := Lib.hid he
    clear h1 h2 hsg he
    go_enter Try.func8, Try.ntmps8
    go_wp2_with fail
    refine bodyPost_ret (v := .string ⟨#[c]⟩) (by simp [results, Try.results8, go_sem]) rfl ⟨?_, HB.out.1⟩
    rw [HE.out]
  · have he : RX.escB c = [92, c] := by
      unfold RX.escB
      rw [if_pos (by rw [hsg]; simp; omega)]
    have t0 : ¬ ((97 : Int) ≤ ((c.toNat : Nat) : Int)) := by omega
    have t1 : (((c.toNat : Nat) : Int) ≤ (122 : Int)) := by omega
    have t2 : ¬ ((65 : Int) ≤ ((c.toNat : Nat) : Int)) := by omega
    have t3 : (((c.toNat : Nat) : Int) ≤ (90 : Int)) := by omega
    have t4 : ((48 : Int) ≤ ((c.toNat : Nat) : Int)) := by omega
    have t5 : ¬ (((c.toNat : Nat) : Int) ≤ (57 : Int)) := by omega
    have t6 : ((33 : Int) ≤ ((c.toNat : Nat) : Int)) := by omega
    have t7 : (((c.toNat : Nat) : Int) ≤ (126 : Int)) := by omega
    have HE := Lib.hid he
    clear h1 h2 hsg he
    go_enter Try.func8, Try.ntmps8
    go_wp2_with fail
    refine bodyPost_ret (v := .string ⟨#[92, c]⟩) (by simp [results, Try.results8, go_sem]) rfl ⟨?_, HB.out.2⟩
    rw [HE.out]
  · have he : RX.escB c = [c] := by
      unfold RX.escB
      rw [if_neg (by rw [hsg]; simp; omega)]
    have t0 : ¬ ((97 : Int) ≤ ((c.toNat : Nat) : Int)) := by omega
    have t1 : (((c.toNat : Nat) : Int) ≤ (122 : Int)) := by omega
    have t2 : ((65 : Int) ≤ ((c.toNat : Nat) : Int)) := by omega
    have t3 : (((c.toNat : Nat) : Int) ≤ (90 : Int)) := by omega
    have t4 : ((48 : Int) ≤ ((c.toNat : Nat) : Int)) := by omega
    have t5 : ¬ (((c.toNat : Nat) : Int) ≤ (57 : Int)) := by omega
    have t6 : ((33 : Int) ≤ ((c.toNat : Nat) : Int)) := by omega
    have t7 : (((c.toNat : Nat) : Int) ≤ (126 : Int)) := by omega
    have HE := Lib.hid he
    clear h1 h2 hsg he
    go_enter Try.func8, Try.ntmps8
    go_wp2_with fail
    refine bodyPost_ret (v := .string ⟨#[c]⟩) (by simp [results, Try.results8, go_sem]) rfl ⟨?_, HB.out.1⟩
    rw [HE.out]
  · have he : RX.escB c = [92, c] := by
      unfold RX.escB
      rw [if_pos (by rw [hsg]; simp; omega)]
    have t0 : ¬ ((97 : Int) ≤ ((c.toNat : Nat) : Int)) := by omega
    have t1 : (((c.toNat : Nat) : Int) ≤ (122 : Int)) := by omega
    have t2 : ((65 : Int) ≤ ((c.toNat : Nat) : Int)) := by omega
    have t3 : ¬ (((c.toNat : Nat) : Int) ≤ (90 : Int)) := by omega
    have t4 : ((48 : Int) ≤ ((c.toNat : Nat) : Int)) := by omega
    have t5 : ¬ (((c.toNat : Nat) : Int) ≤ (57 : Int)) := by omega
    have t6 : ((33 : Int) ≤ ((c.toNat : Nat) : Int)) := by omega
    have t7 : (((c.toNat : Nat) : Int) ≤ (126 : Int)) := by omega
    have HE := Lib.hid he
    clear h1 h2 hsg he
    go_enter Try.func8, Try.ntmps8
    go_wp2_with fail
    refine bodyPost_ret (v := .string ⟨#[92, c]⟩) (by simp [results, Try.results8, go_sem]) rfl ⟨?_, HB.out.2⟩
    rw [HE.out]
  · have he : RX.escB c = [c] := by
      unfold RX.escB
      rw [if_neg (by rw [hsg]; simp; omega)]
    have t0 : ((97 : Int) ≤ ((c.toNat : Nat) : Int)) := by omega
    have t1 : (((c.toNat : Nat) : Int) ≤ (122 : Int)) := by omega
    have t2 : ((65 : Int) ≤ ((c.toNat : Nat) : Int)) := by omega
    have t3 : ¬ (((c.toNat : Nat) : Int) ≤ (90 : Int)) := by omega
    have t4 : ((48 : Int) ≤ ((c.toNat : Nat) : Int)) := by omega
    have t5 : ¬ (((c.toNat : Nat) : Int) ≤ (57 : Int)) := by omega
    have t6 : ((33 : Int) ≤ ((c.toNat : Nat) : Int)) := by omega
    have t7 : (((c.toNat : Nat) : Int) ≤ (126 : Int)) := by omega
    have HE := Lib.hid he
    clear h1 h2 hsg he
    go_enter Try.func8, Try.ntmps8
    go_wp2_with fail
    refine bodyPost_ret (v := .string ⟨#[c]⟩) (by simp [results, Try.results8, go_sem]) rfl ⟨?_, HB.out.1⟩
    rw [HE.out]
  · have he : RX.escB c = [92, c] := by
      unfold RX.escB
      rw [if_pos (by rw [hsg]; simp; omega)]
    have t0 : ((97 : Int) ≤ ((c.toNat : Nat) : Int)) := by omega
    have t1 : ¬ (((c.toNat : Nat) : Int) ≤ (122 : Int)) := by omega
    have t2 : ((65 : Int) ≤ ((c.toNat : Nat) : Int)) := by omega
    have t3 : ¬ (((c.toNat : Nat) : Int) ≤ (90 : Int)) := by omega
    have t4 : ((48 : Int) ≤ ((c.toNat : Nat) : Int)) := by omega
    have t5 : ¬ (((c.toNat : Nat) : Int) ≤ (57 : Int)) := by omega
    have t6 : ((33 : Int) ≤ ((c.toNat : Nat) : Int)) := by omega
    have t7 : (((c.toNat : Nat) : Int) ≤ (126 : Int)) := by omega
    have HE := Lib.hid he
    clear h1 h2 hsg he
    go_enter Try.func8, Try.ntmps8
    go_wp2_with fail
    refine bodyPost_ret (v := .string ⟨#[92, c]⟩) (by simp [results, Try.results8, go_sem]) rfl ⟨?_, HB.out.2⟩
    rw [HE.out]
  · have he : RX.escB c = [c] := by
      unfold RX.escB
      rw [if_neg (by rw [hsg]; simp; omega)]
    have t0 : ((97 : Int) ≤ ((c.toNat : Nat) : Int)) := by omega
    have t1 : ¬ (((c.toNat : Nat) : Int) ≤ (122 : Int)) := by omega
    have t2 : ((65 : Int) ≤ ((c.toNat : Nat) : Int)) := by omega
    have t3 : ¬ (((c.toNat : Nat) : Int) ≤ (90 : Int)) := by omega
    have t4 : ((48 : Int) ≤ ((c.toNat : Nat) : Int)) := by omega
    have t5 : ¬ (((c.toNat : Nat) : Int) ≤ (57 : Int)) := by omega
    have t6 : ((33 : Int) ≤ ((c.toNat : Nat) : Int)) := by omega
    have t7 : ¬ (((c.toNat : Nat) : Int) ≤ (126 : Int)) := by omega
    have HE := Lib.hid he
    clear h1 h2 hsg he
    go_enter Try.func8, Try.ntmps8
    go_wp2_with fail
    refine bodyPost_ret (v := .string ⟨#[c]⟩) (by simp [results, Try.results8, go_sem]) rfl ⟨?_, HB.out.1⟩
    rw [HE.out]
end Go.Proofs.Ytdpakjkldkddcaa
