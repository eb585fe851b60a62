import Derived.Test.YtglafbfbgjihbaaChecked
import Derived.Test.YtglafbfbgjihbaaStab
import Derived.WalkKit
import Derived.Lib.Hide
import Derived.BigRegion
import Derived.BigQuiet
import Derived.Outline
import Derived.Shelf.SlSortCmp.Insertion1
namespace Go.Proofs.Ytglafbfbgjihbaa
open Go.RowKit Go.Lib Go.Sort
variable {α : Type} [Inhabited α]
set_option maxHeartbeats 1000000 in
set_option maxRecDepth 1000000 in
theorem swapRange_int (enc : α → Value) (blk off cap L a b n : Nat) (A B N : Int) (fv : Value) (d0 d : Array α) (w0 w : World) (R : Row1 enc w0 blk off d0) (hs : d0.size = d.size) (S : SW enc w0 blk off d w)
    (hL : d.size = L) (hA : A = (a : Int)) (hB : B = (b : Int)) (hN : N = (n : Int)) (hab : a + n ≤ b) (hb : b + n ≤ d.size) (hsz : d.size < 4611686018427387904) :
    Calls Try.prog 132 #[.slice (some ⟨blk, off, none⟩) L cap, .int .i64 A, .int .i64 B, .int .i64 N, fv] w fun e w' => e = .returned (.tuple #[]) ∧ SW enc w0 blk off (swapRg d a b n) w' := by
  subst hL hA hB hN
  have hcl0 := R.hO.cells
  simp only [Value.cells] at hcl0
  have hst := R.hO.store Try.prog
  have S0 : Aside (SW enc w0 blk off d w) := S
  clear S
  go_enter Try.func132, Try.ntmps132
  go_wp2
  go_loopg [10] n (fun g1 vi wr => ∃ i : Nat, vi = .int .i64 i ∧ i ≤ n ∧ n - i ≤ g1 ∧ Aside (SW enc w0 blk off (swapRg d a b i) wr))
  case atStart => exact ⟨0, rfl, by omega, by omega, (show Aside (SW _ _ _ _ _ _) from by rw [swapRg_zero]; exact S0.out)⟩
  case round =>
    clear S0
    obtain ⟨i, rfl, hin, hg1, S1⟩ := hrel
    by_cases hlt : i < n
    · have hltz : (i : Int) < (n : Int) := by omega
      have hsd : (swapRg d a b i).size = d.size := size_swapRg _ _ _ _
      obtain ⟨x, hx⟩ : ∃ x, x = (swapRg d a b i)[a + i]! := ⟨_, rfl⟩
      obtain ⟨y, hy⟩ : ∃ x, x = (swapRg d a b i)[b + i]! := ⟨_, rfl⟩
      obtain ⟨iN, hiN⟩ : ∃ q, q = a + i := ⟨_, rfl⟩
      obtain ⟨jN, hjN⟩ : ∃ q, q = b + i := ⟨_, rfl⟩
      have ea : ((a : Int) + (i : Int)).toNat = iN := by omega
      have pa : (0 : Int) ≤ (a : Int) + (i : Int) := by omega
      have ba : (a : Int) + (i : Int) < (d.size : Int) := by omega
      have ra : IntKind.i64.wrap ((a : Int) + (i : Int)) = (a : Int) + (i : Int) := by rw [IntKind.wrap_i64]; omega
      have ec : ((b : Int) + (i : Int)).toNat = jN := by omega
      have pc : (0 : Int) ≤ (b : Int) + (i : Int) := by omega
      have bc : (b : Int) + (i : Int) < (d.size : Int) := by omega
      have rc : IntKind.i64.wrap ((b : Int) + (i : Int)) = (b : Int) + (i : Int) := by rw [IntKind.wrap_i64]; omega
      have S3 : Aside (SW enc w0 blk off (swapRg d a b (i + 1)) ((wr.setCell ⟨blk, off + iN, none⟩ (enc y)).setCell ⟨blk, off + jN, none⟩ (enc x)).drew) := by
        have := S1.out.swapped R (a + i) (b + i) (by omega) (by omega)
        rw [swapRg_succ d a b i (by omega) (by omega)] at this
        rw [hiN, hjN, hx, hy]; exact this
      have ca := S1.out.c1 R (by omega) (a + i) (by omega)
      have cb := S1.out.c1 R (by omega) (b + i) (by omega)
      have fa := S1.out.f1 R (by omega) (a + i) (by omega)
      have fb := S1.out.f1 R (by omega) (b + i) (by omega)
      obtain ⟨u, cu⟩ := S1.out.c2 R (by omega) (a + i) (b + i) (by omega) (by omega) (enc y)
      rw [← hjN, ← hiN] at cu
      rw [← hx, ← hiN] at ca
      rw [← hy, ← hjN] at cb
      rw [← hiN] at fa
      rw [← hjN] at fb
      clear S1 hx hy hiN hjN hsd
      go_wp2_with fail
      go_big_region
      clear ca cb cu fa fb
      generalize ((wr.setCell ⟨blk, off + iN, none⟩ (enc y)).setCell ⟨blk, off + jN, none⟩ (enc x)).drew = w3 at S3 ⊢
      clear ea ec
      go_wp2
      go_roundg (n - (i + 1))
      case measure => omega
      case rel => exact ⟨i + 1, by go_num, by omega, Nat.le_refl _, S3⟩
    · have hltz : ¬ (i : Int) < (n : Int) := by omega
      go_wp2
      go_end0
      obtain rfl : i = n := by omega
      exact ⟨rfl, S1.out⟩

set_option maxHeartbeats 1000000 in
set_option maxRecDepth 1000000 in
theorem rotate_int (enc : α → Value) (blk off cap L a m b : Nat) (A M B : Int) (fv : Value) (d0 d : Array α) (w0 w : World) (R : Row1 enc w0 blk off d0) (hs : d0.size = d.size) (S : SW enc w0 blk off d w)
    (hL : d.size = L) (hA : A = (a : Int)) (hM : M = (m : Int)) (hB : B = (b : Int)) (ham : a < m) (hmb : m < b) (hb : b ≤ d.size) (hsz : d.size < 4611686018427387904) :
    Calls Try.prog 121 #[.slice (some ⟨blk, off, none⟩) L cap, .int .i64 A, .int .i64 M, .int .i64 B, fv] w fun e w' => e = .returned (.tuple #[]) ∧ SW enc w0 blk off (rotA d a m b) w' := by
  subst hL hA hM hB
  have S0 : Aside (SW enc w0 blk off d w) := S
  clear S
  go_enter Try.func121, Try.ntmps121
  go_wp2
  go_loopg [10, 11] (b - a) (fun g1 vi vj wr => ∃ (i j : Nat) (c : Array α), vi = .int .i64 i ∧ vj = .int .i64 j ∧ 0 < i ∧ 0 < j ∧ i ≤ m - a ∧ j ≤ b - m ∧ i + j ≤ g1 ∧ c.size = d.size ∧ Hid (rotA c (m - i) m (m + j) = rotA d a m b) ∧ Aside (SW enc w0 blk off c wr))
  case atStart => exact ⟨m - a, b - m, d, by go_num, by go_num, by omega, by omega, Nat.le_refl _, Nat.le_refl _, by omega, rfl, (show Hid _ from by show _ = _; congr 1 <;> omega), S0⟩
  case round =>
    clear S0
    obtain ⟨i, j, c, rfl, rfl, hi0, hj0, hi, hj, hg1, hsc, HR, S1⟩ := hrel
    by_cases hij : i = j
    · subst hij
      have hne2 : ((i : Int) != (i : Int)) = false := by simp
      go_wp2_with fail
      refine (swapRange_int enc blk off cap _ (m - i) m i _ _ _ _ d0 c w0 _ R (by omega) S1.out hsc (by omega) rfl rfl (by omega) (by omega) (by omega)).mono ?_
      rintro e w' ⟨rfl, S2⟩
      go_wp2
      go_end0
      refine ⟨rfl, ?_⟩
      rw [← HR.out, ← rotA_even c m i (by omega)]
      exact S2
    · have hne2 : ((i : Int) != (j : Int)) = true := by rw [bne_iff_ne]; omega
      by_cases hgt : j < i
      · have hz : (j : Int) < (i : Int) := by omega
        go_wp2_with fail
        refine (swapRange_int enc blk off cap _ (m - i) m j _ _ _ _ d0 c w0 _ R (by omega) S1.out hsc (by omega) rfl rfl (by omega) (by omega) (by omega)).mono ?_
        rintro e w' ⟨rfl, S2⟩
        have S3 : Aside (SW enc w0 blk off (swapRg c (m - i) m j) w') := S2
        have HR2 : Hid (rotA (swapRg c (m - i) m j) (m - (i - j)) m (m + j) = rotA d a m b) := (rotA_left c m i j (by omega) hgt (by omega)).trans HR.out
        clear S2 S1 HR
        go_wp2
        go_roundg (i - j + j)
        case measure => omega
        case rel => exact ⟨i - j, j, _, by go_num, rfl, by omega, hj0, by omega, hj, Nat.le_refl _, by rw [size_swapRg]; exact hsc, HR2, S3⟩
      · have hz : ¬ (j : Int) < (i : Int) := by omega
        go_wp2_with fail
        refine (swapRange_int enc blk off cap _ (m - i) (m + j - i) i _ _ _ _ d0 c w0 _ R (by omega) S1.out hsc (by omega) (by omega) rfl (by omega) (by omega) (by omega)).mono ?_
        rintro e w' ⟨rfl, S2⟩
        have S3 : Aside (SW enc w0 blk off (swapRg c (m - i) (m + j - i) i) w') := S2
        have HR2 : Hid (rotA (swapRg c (m - i) (m + j - i) i) (m - i) m (m + (j - i)) = rotA d a m b) := (rotA_right c m i j (by omega) (by omega) (by omega)).trans HR.out
        clear S2 S1 HR
        go_wp2
        go_roundg (i + (j - i))
        case measure => omega
        case rel => exact ⟨i, j - i, _, rfl, by go_num, hi0, by omega, hi, by omega, Nat.le_refl _, by rw [size_swapRg]; exact hsc, HR2, S3⟩
end Go.Proofs.Ytglafbfbgjihbaa
