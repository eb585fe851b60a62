/- The document's Int at 2, 3 and 6. Written by genvint.py. -/
import Derived.Test.YtajaijidecomdaaGreatDoorG25
namespace Go.Proofs.YtajaijidecomdaaGreatDoor
open Go.RowKit Go.Lib

set_option maxHeartbeats 4000000 in
set_option maxRecDepth 100000 in
theorem up_two (A : Option Addr) (c : Nat) (w : World) (hL : Lst encD 1 w w.heap.size A 1 [2]) :
    Calls Tryz.prog 134 #[.slice A 1 c, .int .i64 51] w fun e w' => ∃ A c, e = .returned (.slice A 2 c) ∧ Lst encD 1 w' w'.heap.size A 2 [0, 1048576] ∧ Below w.heap.size w w' := by
  obtain ⟨i0, hi, hz0, hz1, hz2⟩ := info_parts Tryz.infoWord
  obtain ⟨b, off, y, rfl, hb, hy, hcl⟩ := hL.at (k := 0) (by omega)
  obtain rfl : 2 = y := by simpa using hy
  have c0 := hcl 0 _ rfl
  simp only [Nat.add_zero, Nat.zero_mul] at c0
  clear hcl hL hy
  have hor : bits .or .u64 1048576 0 = 1048576 := by decide
  have hand : bits .and .u64 1048576 4294967295 = 1048576 := by decide
  go_enter Tryz.func134, Tryz.ntmps134
  go_wp2_with (first | (refine wpList_make_full _ rfl _ _ 155 rfl w.heap.size 182 i0 _ 1 Tryz.underlying155 hi hz0 hz1 .i64 .i64 _ _ 1 rfl rfl (by decide) (by decide) (by rw [hz2]; decide) (by decide) (Nat.le_refl _) ?_) | fail)
  intro w1 hown1 hg1
  have hm : (madeCells #[Value.int .u32 0] 1).toList = [Value.int .u32 0] := by simp [madeCells]
  have hown1 : w1.ownsRow w.heap.size 182 1 (.slice (some ⟨w.heap.size, 0, none⟩) 1 1) 1 [Value.int .u32 0] := by rw [← hm]; exact hown1
  have hb1 : Below w.heap.size w w1 := (Below.refl _ w).grown hg1 (Nat.le_refl _) (fun j hj => by cases hj)
  have c0 := (hb1.cell (p := ⟨b, off, none⟩) hb).trans c0
  have hs1 := hb1.size
  have H1 := Lib.hid (show _ ∧ _ from ⟨hown1, hb1⟩)
  clear hown1 hg1 hb1 hm
  go_wp2
  refine wp_loop_rounds 2 ?_
  rw [rounds_succ]
  go_wp2_with (first
    | (at_builtin; refine wpList_append_own _ rfl _ _ 155 rfl w.heap.size 182 i0 _ 1 4 Tryz.underlying155 hi hz0 hz1 hz2 rfl (by omega) _ 1 [.int .u32 0] rfl (H1.out.1.alloc _) ⟨w1.heap.size, 0, none⟩ 1 1 [.int .u32 1048576] rfl rfl (cells_newL w1 [.int .u32 1048576] _) (by simp [Value.oneCell']) (by unfold maxLen; omega) (by omega) (by simp; omega) ?_)
    | fail)
  intro v2 w2 hown2 hg2 _
  have hb2 : Below w.heap.size w w2 := (H1.out.2.alloc hs1 _).grown hg2 (by simp; omega) (fun j hj => (H1.out.1.lt j hj).1)
  have hs2 := hb2.size
  have H2 := Lib.hid (show _ ∧ _ from ⟨hown2, hb2⟩)
  clear hown2 hg2 hb2
  go_wp2
  rw [rounds_succ]
  go_wp2_with (first
    | (at_builtin; refine wpList_append_own _ rfl _ _ 155 rfl w.heap.size 182 i0 _ 1 4 Tryz.underlying155 hi hz0 hz1 hz2 rfl (by omega) _ 2 [.int .u32 0, .int .u32 1048576] rfl (H2.out.1.alloc _) ⟨w2.heap.size, 0, none⟩ 1 1 [.int .u32 0] rfl rfl (cells_newL w2 [.int .u32 0] _) (by simp [Value.oneCell']) (by unfold maxLen; omega) (by omega) (by simp; omega) ?_)
    | fail)
  intro v3 w3 hown3 hg3 _
  have hb3 : Below w.heap.size w w3 := (H2.out.2.alloc hs2 _).grown hg3 (by simp; omega) (fun j hj => (H2.out.1.lt j hj).1)
  obtain ⟨A5, c5, rfl, hl5, hc1, hc2⟩ := natAt_own (ds := [0, 1048576, 0]) hown3
  have ht := trim_any A5 3 c5 [0, 1048576, 0] w3 hl5 hc1 hc2
  have htr : FL.trimD [0, 1048576, 0] = [0, 1048576] := by decide
  rw [htr] at ht
  have HT := Lib.hid (show _ ∧ _ from ⟨ht, hb3⟩)
  clear hown3 hg3 hl5 hc1 hc2 hb3 ht htr hi hz0 hz1 hz2
  go_wp2_with (first | (go_at_call 190; refine HT.out.1.mono ?_; rintro e w6 ⟨rfl, hl6, hb6⟩; have H6 := Lib.hid (show _ ∧ _ from ⟨hl6, HT.out.2.trans (hb6.mono HT.out.2.size)⟩); clear hl6 hb6))
  go_ret
  exact ⟨A5, c5, rfl, H6.out.1, H6.out.2⟩
set_option maxHeartbeats 4000000 in
set_option maxRecDepth 100000 in
theorem up_three (A : Option Addr) (c : Nat) (w : World) (hL : Lst encD 1 w w.heap.size A 1 [3]) :
    Calls Tryz.prog 134 #[.slice A 1 c, .int .i64 51] w fun e w' => ∃ A c, e = .returned (.slice A 2 c) ∧ Lst encD 1 w' w'.heap.size A 2 [0, 1572864] ∧ Below w.heap.size w w' := by
  obtain ⟨i0, hi, hz0, hz1, hz2⟩ := info_parts Tryz.infoWord
  obtain ⟨b, off, y, rfl, hb, hy, hcl⟩ := hL.at (k := 0) (by omega)
  obtain rfl : 3 = y := by simpa using hy
  have c0 := hcl 0 _ rfl
  simp only [Nat.add_zero, Nat.zero_mul] at c0
  clear hcl hL hy
  have hor : bits .or .u64 1572864 0 = 1572864 := by decide
  have hand : bits .and .u64 1572864 4294967295 = 1572864 := by decide
  go_enter Tryz.func134, Tryz.ntmps134
  go_wp2_with (first | (refine wpList_make_full _ rfl _ _ 155 rfl w.heap.size 182 i0 _ 1 Tryz.underlying155 hi hz0 hz1 .i64 .i64 _ _ 1 rfl rfl (by decide) (by decide) (by rw [hz2]; decide) (by decide) (Nat.le_refl _) ?_) | fail)
  intro w1 hown1 hg1
  have hm : (madeCells #[Value.int .u32 0] 1).toList = [Value.int .u32 0] := by simp [madeCells]
  have hown1 : w1.ownsRow w.heap.size 182 1 (.slice (some ⟨w.heap.size, 0, none⟩) 1 1) 1 [Value.int .u32 0] := by rw [← hm]; exact hown1
  have hb1 : Below w.heap.size w w1 := (Below.refl _ w).grown hg1 (Nat.le_refl _) (fun j hj => by cases hj)
  have c0 := (hb1.cell (p := ⟨b, off, none⟩) hb).trans c0
  have hs1 := hb1.size
  have H1 := Lib.hid (show _ ∧ _ from ⟨hown1, hb1⟩)
  clear hown1 hg1 hb1 hm
  go_wp2
  refine wp_loop_rounds 2 ?_
  rw [rounds_succ]
  go_wp2_with (first
    | (at_builtin; refine wpList_append_own _ rfl _ _ 155 rfl w.heap.size 182 i0 _ 1 4 Tryz.underlying155 hi hz0 hz1 hz2 rfl (by omega) _ 1 [.int .u32 0] rfl (H1.out.1.alloc _) ⟨w1.heap.size, 0, none⟩ 1 1 [.int .u32 1572864] rfl rfl (cells_newL w1 [.int .u32 1572864] _) (by simp [Value.oneCell']) (by unfold maxLen; omega) (by omega) (by simp; omega) ?_)
    | fail)
  intro v2 w2 hown2 hg2 _
  have hb2 : Below w.heap.size w w2 := (H1.out.2.alloc hs1 _).grown hg2 (by simp; omega) (fun j hj => (H1.out.1.lt j hj).1)
  have hs2 := hb2.size
  have H2 := Lib.hid (show _ ∧ _ from ⟨hown2, hb2⟩)
  clear hown2 hg2 hb2
  go_wp2
  rw [rounds_succ]
  go_wp2_with (first
    | (at_builtin; refine wpList_append_own _ rfl _ _ 155 rfl w.heap.size 182 i0 _ 1 4 Tryz.underlying155 hi hz0 hz1 hz2 rfl (by omega) _ 2 [.int .u32 0, .int .u32 1572864] rfl (H2.out.1.alloc _) ⟨w2.heap.size, 0, none⟩ 1 1 [.int .u32 0] rfl rfl (cells_newL w2 [.int .u32 0] _) (by simp [Value.oneCell']) (by unfold maxLen; omega) (by omega) (by simp; omega) ?_)
    | fail)
  intro v3 w3 hown3 hg3 _
  have hb3 : Below w.heap.size w w3 := (H2.out.2.alloc hs2 _).grown hg3 (by simp; omega) (fun j hj => (H2.out.1.lt j hj).1)
  obtain ⟨A5, c5, rfl, hl5, hc1, hc2⟩ := natAt_own (ds := [0, 1572864, 0]) hown3
  have ht := trim_any A5 3 c5 [0, 1572864, 0] w3 hl5 hc1 hc2
  have htr : FL.trimD [0, 1572864, 0] = [0, 1572864] := by decide
  rw [htr] at ht
  have HT := Lib.hid (show _ ∧ _ from ⟨ht, hb3⟩)
  clear hown3 hg3 hl5 hc1 hc2 hb3 ht htr hi hz0 hz1 hz2
  go_wp2_with (first | (go_at_call 190; refine HT.out.1.mono ?_; rintro e w6 ⟨rfl, hl6, hb6⟩; have H6 := Lib.hid (show _ ∧ _ from ⟨hl6, HT.out.2.trans (hb6.mono HT.out.2.size)⟩); clear hl6 hb6))
  go_ret
  exact ⟨A5, c5, rfl, H6.out.1, H6.out.2⟩
set_option maxHeartbeats 4000000 in
set_option maxRecDepth 100000 in
theorem up_six (A : Option Addr) (c : Nat) (w : World) (hL : Lst encD 1 w w.heap.size A 1 [6]) :
    Calls Tryz.prog 134 #[.slice A 1 c, .int .i64 50] w fun e w' => ∃ A c, e = .returned (.slice A 2 c) ∧ Lst encD 1 w' w'.heap.size A 2 [0, 1572864] ∧ Below w.heap.size w w' := by
  obtain ⟨i0, hi, hz0, hz1, hz2⟩ := info_parts Tryz.infoWord
  obtain ⟨b, off, y, rfl, hb, hy, hcl⟩ := hL.at (k := 0) (by omega)
  obtain rfl : 6 = y := by simpa using hy
  have c0 := hcl 0 _ rfl
  simp only [Nat.add_zero, Nat.zero_mul] at c0
  clear hcl hL hy
  have hor : bits .or .u64 1572864 0 = 1572864 := by decide
  have hand : bits .and .u64 1572864 4294967295 = 1572864 := by decide
  go_enter Tryz.func134, Tryz.ntmps134
  go_wp2_with (first | (refine wpList_make_full _ rfl _ _ 155 rfl w.heap.size 182 i0 _ 1 Tryz.underlying155 hi hz0 hz1 .i64 .i64 _ _ 1 rfl rfl (by decide) (by decide) (by rw [hz2]; decide) (by decide) (Nat.le_refl _) ?_) | fail)
  intro w1 hown1 hg1
  have hm : (madeCells #[Value.int .u32 0] 1).toList = [Value.int .u32 0] := by simp [madeCells]
  have hown1 : w1.ownsRow w.heap.size 182 1 (.slice (some ⟨w.heap.size, 0, none⟩) 1 1) 1 [Value.int .u32 0] := by rw [← hm]; exact hown1
  have hb1 : Below w.heap.size w w1 := (Below.refl _ w).grown hg1 (Nat.le_refl _) (fun j hj => by cases hj)
  have c0 := (hb1.cell (p := ⟨b, off, none⟩) hb).trans c0
  have hs1 := hb1.size
  have H1 := Lib.hid (show _ ∧ _ from ⟨hown1, hb1⟩)
  clear hown1 hg1 hb1 hm
  go_wp2
  refine wp_loop_rounds 2 ?_
  rw [rounds_succ]
  go_wp2_with (first
    | (at_builtin; refine wpList_append_own _ rfl _ _ 155 rfl w.heap.size 182 i0 _ 1 4 Tryz.underlying155 hi hz0 hz1 hz2 rfl (by omega) _ 1 [.int .u32 0] rfl (H1.out.1.alloc _) ⟨w1.heap.size, 0, none⟩ 1 1 [.int .u32 1572864] rfl rfl (cells_newL w1 [.int .u32 1572864] _) (by simp [Value.oneCell']) (by unfold maxLen; omega) (by omega) (by simp; omega) ?_)
    | fail)
  intro v2 w2 hown2 hg2 _
  have hb2 : Below w.heap.size w w2 := (H1.out.2.alloc hs1 _).grown hg2 (by simp; omega) (fun j hj => (H1.out.1.lt j hj).1)
  have hs2 := hb2.size
  have H2 := Lib.hid (show _ ∧ _ from ⟨hown2, hb2⟩)
  clear hown2 hg2 hb2
  go_wp2
  rw [rounds_succ]
  go_wp2_with (first
    | (at_builtin; refine wpList_append_own _ rfl _ _ 155 rfl w.heap.size 182 i0 _ 1 4 Tryz.underlying155 hi hz0 hz1 hz2 rfl (by omega) _ 2 [.int .u32 0, .int .u32 1572864] rfl (H2.out.1.alloc _) ⟨w2.heap.size, 0, none⟩ 1 1 [.int .u32 0] rfl rfl (cells_newL w2 [.int .u32 0] _) (by simp [Value.oneCell']) (by unfold maxLen; omega) (by omega) (by simp; omega) ?_)
    | fail)
  intro v3 w3 hown3 hg3 _
  have hb3 : Below w.heap.size w w3 := (H2.out.2.alloc hs2 _).grown hg3 (by simp; omega) (fun j hj => (H2.out.1.lt j hj).1)
  obtain ⟨A5, c5, rfl, hl5, hc1, hc2⟩ := natAt_own (ds := [0, 1572864, 0]) hown3
  have ht := trim_any A5 3 c5 [0, 1572864, 0] w3 hl5 hc1 hc2
  have htr : FL.trimD [0, 1572864, 0] = [0, 1572864] := by decide
  rw [htr] at ht
  have HT := Lib.hid (show _ ∧ _ from ⟨ht, hb3⟩)
  clear hown3 hg3 hl5 hc1 hc2 hb3 ht htr hi hz0 hz1 hz2
  go_wp2_with (first | (go_at_call 190; refine HT.out.1.mono ?_; rintro e w6 ⟨rfl, hl6, hb6⟩; have H6 := Lib.hid (show _ ∧ _ from ⟨hl6, HT.out.2.trans (hb6.mono HT.out.2.size)⟩); clear hl6 hb6))
  go_ret
  exact ⟨A5, c5, rfl, H6.out.1, H6.out.2⟩
theorem low_two (A : Option Addr) (c : Nat) (w : World) (hL : Lst encD 1 w w.heap.size A 2 [0, 1048576]) : Calls Tryz.prog 189 #[.slice A 2 c] w fun e w' => e = .returned (.int .u64 4503599627370496) ∧ w' = w := by
  obtain ⟨b, off, y, rfl, hb, hy, hcl⟩ := hL.at (k := 0) (by omega)
  obtain ⟨b', off', y', hA, hb', hy', hcl'⟩ := hL.at (k := 1) (by omega)
  cases hA
  obtain rfl : 0 = y := by simpa using hy
  obtain rfl : 1048576 = y' := by simpa using hy'
  have c0 := hcl 0 _ rfl
  have c1 := hcl' 0 _ rfl
  simp only [Nat.add_zero, Nat.zero_mul, Nat.one_mul] at c0 c1
  clear hcl hcl' hL hy hy'
  have hor : bits .or .u64 0 4503599627370496 = 4503599627370496 := by decide
  go_enter Tryz.func189, Tryz.ntmps189
  go_wp2
  go_ret
  exact ⟨rfl, rfl⟩
set_option maxHeartbeats 4000000 in
set_option maxRecDepth 100000 in
theorem ref_two (w : World) : Calls Tryz.prog 49 #[.int .i64 2] w fun e w' => e = .returned (.int .u64 4611686018427387904) ∧ Below w.heap.size w w' := by
  have hd : FL.digs 2 = [2] := by simp [FL.digs_pos, FL.digs_zero]
  have hd2 : FL.digs 4503599627370496 = [0, 1048576] := by simp [FL.digs_pos, FL.digs_zero]
  have hn1 : FL.bitsN 2 = 2 := by decide
  have hn2 : FL.bitsN 4503599627370496 = 53 := by decide
  have hfrom := fun W => from_lit 2 (by omega) (by omega) W (by decide)
  have hb1 := fun A c W (h : Lst encD 1 W W.heap.size A 1 [2]) => nbits_any A c 2 W (by rw [hd]; exact h) (by rw [hd]; decide)
  have hb2 := fun A c W (h : Lst encD 1 W W.heap.size A 2 [0, 1048576]) => nbits_any A c 4503599627370496 W (by rw [hd2]; exact h) (by rw [hd2]; decide)
  rw [hd, hn1] at hb1
  rw [hd2, hn2] at hb2
  have hor : bits .or .u64 0 4611686018427387904 = 4611686018427387904 := by decide
  have hor2 : bits .or .u64 4611686018427387904 0 = 4611686018427387904 := by decide
  have HB1 := Lib.hid hb1
  have HB2 := Lib.hid hb2
  clear hb1 hb2 hd hd2 hn1 hn2
  go_enter Tryz.func49, Tryz.ntmps49
  go_wp2_with (first
    | (go_at_call 132; refine (hfrom _).mono ?_; rintro e w1 ⟨A1, c1, rfl, hl1, hb1⟩; have H1 := Lib.hid (show _ ∧ _ from ⟨hl1, hb1⟩); clear hl1 hb1)
    | (go_at_call 124; go_enter Tryz.func124, Tryz.ntmps124)
    | (go_at_call 186; refine (HB2.out _ _ _ H3.out.1).mono ?_; rintro e w4 ⟨rfl, hb4⟩; have H4 := Lib.hid (show _ ∧ _ from ⟨(H3.out.1.below hb4).more hb4.size, H3.out.2.trans (hb4.mono H3.out.2.size)⟩); clear hb4)
    | (go_at_call 186; refine (HB1.out _ _ _ H1.out.1).mono ?_; rintro e w2 ⟨rfl, hb2⟩; have H2 := Lib.hid (show _ ∧ _ from ⟨(H1.out.1.below hb2).more hb2.size, H1.out.2.trans (hb2.mono H1.out.2.size)⟩); clear hb2)
    | (go_at_call 134; refine (up_two _ _ _ H2.out.1).mono ?_; rintro e w3 ⟨A3, c3, rfl, hl3, hb3⟩; have H3 := Lib.hid (show _ ∧ _ from ⟨hl3, H2.out.2.trans (hb3.mono H2.out.2.size)⟩); clear hl3 hb3)
    | (go_at_call 189; refine (low_two _ _ _ H4.out.1).mono ?_; rintro e w5 ⟨rfl, hw⟩; rw [hw]; clear hw w5))
  go_ret
  exact ⟨rfl, H4.out.2⟩
theorem low_three (A : Option Addr) (c : Nat) (w : World) (hL : Lst encD 1 w w.heap.size A 2 [0, 1572864]) : Calls Tryz.prog 189 #[.slice A 2 c] w fun e w' => e = .returned (.int .u64 6755399441055744) ∧ w' = w := by
  obtain ⟨b, off, y, rfl, hb, hy, hcl⟩ := hL.at (k := 0) (by omega)
  obtain ⟨b', off', y', hA, hb', hy', hcl'⟩ := hL.at (k := 1) (by omega)
  cases hA
  obtain rfl : 0 = y := by simpa using hy
  obtain rfl : 1572864 = y' := by simpa using hy'
  have c0 := hcl 0 _ rfl
  have c1 := hcl' 0 _ rfl
  simp only [Nat.add_zero, Nat.zero_mul, Nat.one_mul] at c0 c1
  clear hcl hcl' hL hy hy'
  have hor : bits .or .u64 0 6755399441055744 = 6755399441055744 := by decide
  go_enter Tryz.func189, Tryz.ntmps189
  go_wp2
  go_ret
  exact ⟨rfl, rfl⟩
set_option maxHeartbeats 4000000 in
set_option maxRecDepth 100000 in
theorem ref_three (w : World) : Calls Tryz.prog 49 #[.int .i64 3] w fun e w' => e = .returned (.int .u64 4613937818241073152) ∧ Below w.heap.size w w' := by
  have hd : FL.digs 3 = [3] := by simp [FL.digs_pos, FL.digs_zero]
  have hd2 : FL.digs 6755399441055744 = [0, 1572864] := by simp [FL.digs_pos, FL.digs_zero]
  have hn1 : FL.bitsN 3 = 2 := by decide
  have hn2 : FL.bitsN 6755399441055744 = 53 := by decide
  have hfrom := fun W => from_lit 3 (by omega) (by omega) W (by decide)
  have hb1 := fun A c W (h : Lst encD 1 W W.heap.size A 1 [3]) => nbits_any A c 3 W (by rw [hd]; exact h) (by rw [hd]; decide)
  have hb2 := fun A c W (h : Lst encD 1 W W.heap.size A 2 [0, 1572864]) => nbits_any A c 6755399441055744 W (by rw [hd2]; exact h) (by rw [hd2]; decide)
  rw [hd, hn1] at hb1
  rw [hd2, hn2] at hb2
  have hor : bits .or .u64 0 4611686018427387904 = 4611686018427387904 := by decide
  have hor2 : bits .or .u64 4611686018427387904 2251799813685248 = 4613937818241073152 := by decide
  have HB1 := Lib.hid hb1
  have HB2 := Lib.hid hb2
  clear hb1 hb2 hd hd2 hn1 hn2
  go_enter Tryz.func49, Tryz.ntmps49
  go_wp2_with (first
    | (go_at_call 132; refine (hfrom _).mono ?_; rintro e w1 ⟨A1, c1, rfl, hl1, hb1⟩; have H1 := Lib.hid (show _ ∧ _ from ⟨hl1, hb1⟩); clear hl1 hb1)
    | (go_at_call 124; go_enter Tryz.func124, Tryz.ntmps124)
    | (go_at_call 186; refine (HB2.out _ _ _ H3.out.1).mono ?_; rintro e w4 ⟨rfl, hb4⟩; have H4 := Lib.hid (show _ ∧ _ from ⟨(H3.out.1.below hb4).more hb4.size, H3.out.2.trans (hb4.mono H3.out.2.size)⟩); clear hb4)
    | (go_at_call 186; refine (HB1.out _ _ _ H1.out.1).mono ?_; rintro e w2 ⟨rfl, hb2⟩; have H2 := Lib.hid (show _ ∧ _ from ⟨(H1.out.1.below hb2).more hb2.size, H1.out.2.trans (hb2.mono H1.out.2.size)⟩); clear hb2)
    | (go_at_call 134; refine (up_three _ _ _ H2.out.1).mono ?_; rintro e w3 ⟨A3, c3, rfl, hl3, hb3⟩; have H3 := Lib.hid (show _ ∧ _ from ⟨hl3, H2.out.2.trans (hb3.mono H2.out.2.size)⟩); clear hl3 hb3)
    | (go_at_call 189; refine (low_three _ _ _ H4.out.1).mono ?_; rintro e w5 ⟨rfl, hw⟩; rw [hw]; clear hw w5))
  go_ret
  exact ⟨rfl, H4.out.2⟩
theorem low_six (A : Option Addr) (c : Nat) (w : World) (hL : Lst encD 1 w w.heap.size A 2 [0, 1572864]) : Calls Tryz.prog 189 #[.slice A 2 c] w fun e w' => e = .returned (.int .u64 6755399441055744) ∧ w' = w := by
  obtain ⟨b, off, y, rfl, hb, hy, hcl⟩ := hL.at (k := 0) (by omega)
  obtain ⟨b', off', y', hA, hb', hy', hcl'⟩ := hL.at (k := 1) (by omega)
  cases hA
  obtain rfl : 0 = y := by simpa using hy
  obtain rfl : 1572864 = y' := by simpa using hy'
  have c0 := hcl 0 _ rfl
  have c1 := hcl' 0 _ rfl
  simp only [Nat.add_zero, Nat.zero_mul, Nat.one_mul] at c0 c1
  clear hcl hcl' hL hy hy'
  have hor : bits .or .u64 0 6755399441055744 = 6755399441055744 := by decide
  go_enter Tryz.func189, Tryz.ntmps189
  go_wp2
  go_ret
  exact ⟨rfl, rfl⟩
set_option maxHeartbeats 4000000 in
set_option maxRecDepth 100000 in
theorem ref_six (w : World) : Calls Tryz.prog 49 #[.int .i64 6] w fun e w' => e = .returned (.int .u64 4618441417868443648) ∧ Below w.heap.size w w' := by
  have hd : FL.digs 6 = [6] := by simp [FL.digs_pos, FL.digs_zero]
  have hd2 : FL.digs 6755399441055744 = [0, 1572864] := by simp [FL.digs_pos, FL.digs_zero]
  have hn1 : FL.bitsN 6 = 3 := by decide
  have hn2 : FL.bitsN 6755399441055744 = 53 := by decide
  have hfrom := fun W => from_lit 6 (by omega) (by omega) W (by decide)
  have hb1 := fun A c W (h : Lst encD 1 W W.heap.size A 1 [6]) => nbits_any A c 6 W (by rw [hd]; exact h) (by rw [hd]; decide)
  have hb2 := fun A c W (h : Lst encD 1 W W.heap.size A 2 [0, 1572864]) => nbits_any A c 6755399441055744 W (by rw [hd2]; exact h) (by rw [hd2]; decide)
  rw [hd, hn1] at hb1
  rw [hd2, hn2] at hb2
  have hor : bits .or .u64 0 4616189618054758400 = 4616189618054758400 := by decide
  have hor2 : bits .or .u64 4616189618054758400 2251799813685248 = 4618441417868443648 := by decide
  have HB1 := Lib.hid hb1
  have HB2 := Lib.hid hb2
  clear hb1 hb2 hd hd2 hn1 hn2
  go_enter Tryz.func49, Tryz.ntmps49
  go_wp2_with (first
    | (go_at_call 132; refine (hfrom _).mono ?_; rintro e w1 ⟨A1, c1, rfl, hl1, hb1⟩; have H1 := Lib.hid (show _ ∧ _ from ⟨hl1, hb1⟩); clear hl1 hb1)
    | (go_at_call 124; go_enter Tryz.func124, Tryz.ntmps124)
    | (go_at_call 186; refine (HB2.out _ _ _ H3.out.1).mono ?_; rintro e w4 ⟨rfl, hb4⟩; have H4 := Lib.hid (show _ ∧ _ from ⟨(H3.out.1.below hb4).more hb4.size, H3.out.2.trans (hb4.mono H3.out.2.size)⟩); clear hb4)
    | (go_at_call 186; refine (HB1.out _ _ _ H1.out.1).mono ?_; rintro e w2 ⟨rfl, hb2⟩; have H2 := Lib.hid (show _ ∧ _ from ⟨(H1.out.1.below hb2).more hb2.size, H1.out.2.trans (hb2.mono H1.out.2.size)⟩); clear hb2)
    | (go_at_call 134; refine (up_six _ _ _ H2.out.1).mono ?_; rintro e w3 ⟨A3, c3, rfl, hl3, hb3⟩; have H3 := Lib.hid (show _ ∧ _ from ⟨hl3, H2.out.2.trans (hb3.mono H2.out.2.size)⟩); clear hl3 hb3)
    | (go_at_call 189; refine (low_six _ _ _ H4.out.1).mono ?_; rintro e w5 ⟨rfl, hw⟩; rw [hw]; clear hw w5))
  go_ret
  exact ⟨rfl, H4.out.2⟩
end Go.Proofs.YtajaijidecomdaaGreatDoor
