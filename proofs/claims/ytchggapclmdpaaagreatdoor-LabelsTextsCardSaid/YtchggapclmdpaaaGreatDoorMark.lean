/- The book's marks as texts: mark. -/
import Derived.Test.YtchggapclmdpaaaGreatDoorGa
import Derived.Laws.BytesArg
namespace Go.Proofs.YtchggapclmdpaaaGreatDoor
open Go.RowKit Go.Lib

/-- The text of list a and place b. -/
def markP (a b : Int) : ByteArray := strOfNums [97 + a % 26, 97 + a / 26 % 26, 97 + a / 676 % 26, 97 + b % 26, 97 + b / 26 % 26]
set_option maxRecDepth 100000 in
theorem five_text (x0 x1 x2 x3 x4 : Int) (t : TypeId) (w : World) : (convert 75 9 (.slice (some ⟨w.heap.size, 0, none⟩) 5 5)).run Tryz.prog (w.alloc (.cells #[.int .u8 x0, .int .u8 x1, .int .u8 x2, .int .u8 x3, .int .u8 x4] t)) = .ok (.string (strOfNums [x0, x1, x2, x3, x4])) (w.alloc (.cells #[.int .u8 x0, .int .u8 x1, .int .u8 x2, .int .u8 x3, .int .u8 x4] t)) :=
  run_convert_bytes_arg (P := Tryz.prog) _ 75 5 (by kernel_rfl) (by kernel_rfl) w.heap.size 0 5 5 [x0, x1, x2, x3, x4] rfl (by
      intro i hi
      have : i = 0 ∨ i = 1 ∨ i = 2 ∨ i = 3 ∨ i = 4 := by omega
      have hcl := cells_newL w [.int .u8 x0, .int .u8 x1, .int .u8 x2, .int .u8 x3, .int .u8 x4] t i
      rcases this with rfl | rfl | rfl | rfl | rfl <;> exact hcl _ rfl) 9 (by kernel_rfl)
set_option maxHeartbeats 1000000 in
set_option maxRecDepth 100000 in
theorem mark_pos (a b : Nat) (ha : a ≤ 1000000) (hb : b ≤ 1000000) (w : World) : Calls Tryz.prog 133 #[.int .i64 a, .int .i64 b] w fun e w' => e = .returned (.string (markP a b)) ∧ Below w.heap.size w w' := by
  have h0 : ¬ (a : Int) < 0 := by omega
  have hc := five_text (97 + (a : Int) % 26) (97 + (a : Int) / 26 % 26) (97 + (a : Int) / 676 % 26) (97 + (b : Int) % 26) (97 + (b : Int) / 26 % 26) 5 w
  go_enter Tryz.func133, Tryz.ntmps133
  go_wp2
  go_ret
  exact ⟨rfl, (Below.refl _ _).alloc (Nat.le_refl _) _⟩

/-- The text of list a and place b, below zero too. -/
def markB (a : Int) (b : Nat) : ByteArray := if a < 0 then ⟨#[45]⟩ ++ markP (-(a + 1)) b else markP a b
set_option maxHeartbeats 1000000 in
set_option maxRecDepth 100000 in
theorem mark_any (a : Int) (b : Nat) (ha : -1000000 ≤ a) (ha' : a ≤ 1000000) (hb : b ≤ 1000000) (w : World) : Calls Tryz.prog 133 #[.int .i64 a, .int .i64 b] w fun e w' => e = .returned (.string (markB a b)) ∧ Below w.heap.size w w' := by
  by_cases h0 : a < 0
  · obtain ⟨k, hk⟩ : ∃ k : Nat, (k : Int) = -(a + 1) := ⟨(-(a + 1)).toNat, by omega⟩
    have hm : markB a b = ⟨#[45]⟩ ++ markP k b := by unfold markB; rw [if_pos h0, hk]
    have HM := Lib.hid hm
    clear hm
    obtain ⟨y, rfl⟩ : ∃ y : Int, y = a := ⟨_, rfl⟩
    go_enter Tryz.func133, Tryz.ntmps133
    go_wp2_with (go_at_call 133; rw [← hk]; refine (mark_pos k b (by omega) hb _).mono ?_; rintro e w' ⟨rfl, hbw⟩)
    have hbw' := Lib.hid hbw
    clear hbw
    go_wp2
    go_ret
    all_goals exact ⟨by rw [HM.out, hk]; rfl, hbw'.out⟩
  · obtain ⟨k, rfl⟩ : ∃ k : Nat, a = k := ⟨a.toNat, by omega⟩
    have hm : markB (k : Int) b = markP k b := if_neg h0
    rw [hm]
    exact mark_pos k b (by omega) hb w
end Go.Proofs.YtchggapclmdpaaaGreatDoor
