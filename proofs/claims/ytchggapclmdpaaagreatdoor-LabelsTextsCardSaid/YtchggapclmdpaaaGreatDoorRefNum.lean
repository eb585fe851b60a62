/- The document's digit, hex, simple, utf8. -/
import Derived.Test.YtchggapclmdpaaaGreatDoorEsc7
namespace Go.Proofs.YtchggapclmdpaaaGreatDoor
open Go.RowKit Go.Lib

theorem refDigit_any (c : Nat) (w : World) : Calls Tryz.prog 190 #[.int .u8 c] w fun e w' => e = .returned (.bool (decide (48 ≤ c ∧ c ≤ 57))) ∧ w' = w := by
  by_cases h1 : 48 ≤ c
  · by_cases h2 : c ≤ 57
    · have i1 : (48 : Int) ≤ (c : Int) := by omega
      have i2 : (c : Int) ≤ 57 := by omega
      rw [decide_eq_true ⟨h1, h2⟩]
      go_enter Tryz.func190, Tryz.ntmps190
      go_wp2
      go_ret
      exact ⟨rfl, rfl⟩
    · have i1 : (48 : Int) ≤ (c : Int) := by omega
      have i2 : ¬ (c : Int) ≤ 57 := by omega
      rw [decide_eq_false (fun h => h2 h.2)]
      go_enter Tryz.func190, Tryz.ntmps190
      go_wp2
      go_ret
      exact ⟨rfl, rfl⟩
  · have i1 : ¬ (48 : Int) ≤ (c : Int) := by omega
    rw [decide_eq_false (fun h => h1 h.1)]
    go_enter Tryz.func190, Tryz.ntmps190
    go_wp2
    go_ret
    exact ⟨rfl, rfl⟩
set_option maxHeartbeats 1000000 in
theorem refHex_any (c : Nat) (hc : c < 256) (w : World) : Calls Tryz.prog 180 #[.int .u8 c] w fun e w' => e = .returned (.int .i64 (hexV c)) ∧ w' = w := by
  have hd := fun W => refDigit_any c W
  by_cases h0 : 48 ≤ c ∧ c ≤ 57
  · rw [decide_eq_true h0] at hd
    have hv : hexV c = (c : Int) - 48 := by unfold hexV; rw [if_pos h0]
    have k1 : IntKind.u8.wrap ((c : Int) - 48) = (c : Int) - 48 := u8_in _ (by omega)
    have k2 : IntKind.i64.wrap ((c : Int) - 48) = (c : Int) - 48 := IntWalk.i64_in _ (by omega)
    rw [hv]
    clear h0 hv
    go_enter Tryz.func180, Tryz.ntmps180
    go_wp2_with (go_at_call 190; refine (hd _).mono ?_; rintro e w' ⟨rfl, rfl⟩)
    go_ret
    exact ⟨rfl, rfl⟩
  · rw [decide_eq_false h0] at hd
    by_cases h1 : 97 ≤ c ∧ c ≤ 102
    · have hv : hexV c = (c : Int) - 87 := by unfold hexV; rw [if_neg h0, if_pos h1]
      have k1 : IntKind.u8.wrap ((c : Int) - 97) = (c : Int) - 97 := u8_in _ (by omega)
      have k2 : IntKind.i64.wrap ((c : Int) - 97) = (c : Int) - 97 := IntWalk.i64_in _ (by omega)
      have k3 : IntKind.i64.wrap ((c : Int) - 97 + 10) = (c : Int) - 97 + 10 := IntWalk.i64_in _ (by omega)
      have i1 : (97 : Int) ≤ (c : Int) := by omega
      have i2 : (c : Int) ≤ 102 := by omega
      rw [hv, show (c : Int) - 87 = (c : Int) - 97 + 10 by omega]
      clear h0 h1 hv
      go_enter Tryz.func180, Tryz.ntmps180
      go_wp2_with (go_at_call 190; refine (hd _).mono ?_; rintro e w' ⟨rfl, rfl⟩)
      go_ret
      exact ⟨rfl, rfl⟩
    · by_cases h2 : 65 ≤ c ∧ c ≤ 70
      · have hv : hexV c = (c : Int) - 55 := by unfold hexV; rw [if_neg h0, if_neg h1, if_pos h2]
        have k1 : IntKind.u8.wrap ((c : Int) - 65) = (c : Int) - 65 := u8_in _ (by omega)
        have k2 : IntKind.i64.wrap ((c : Int) - 65) = (c : Int) - 65 := IntWalk.i64_in _ (by omega)
        have k3 : IntKind.i64.wrap ((c : Int) - 65 + 10) = (c : Int) - 65 + 10 := IntWalk.i64_in _ (by omega)
        have i0 : ¬ (97 : Int) ≤ (c : Int) := by omega
        have i1 : (65 : Int) ≤ (c : Int) := by omega
        have i2 : (c : Int) ≤ 70 := by omega
        rw [hv, show (c : Int) - 55 = (c : Int) - 65 + 10 by omega]
        clear h0 h1 h2 hv
        go_enter Tryz.func180, Tryz.ntmps180
        go_wp2_with (go_at_call 190; refine (hd _).mono ?_; rintro e w' ⟨rfl, rfl⟩)
        go_ret
        exact ⟨rfl, rfl⟩
      · have hv : hexV c = -1 := by unfold hexV; rw [if_neg h0, if_neg h1, if_neg h2]
        rw [hv]
        by_cases a1 : 97 ≤ c
        · have i0 : (97 : Int) ≤ (c : Int) := by omega
          have i1 : ¬ (c : Int) ≤ 102 := by omega
          have i2 : (65 : Int) ≤ (c : Int) := by omega
          have i3 : ¬ (c : Int) ≤ 70 := by omega
          clear h0 h1 h2 hv
          go_enter Tryz.func180, Tryz.ntmps180
          go_wp2_with (go_at_call 190; refine (hd _).mono ?_; rintro e w' ⟨rfl, rfl⟩)
          go_ret
          exact ⟨rfl, rfl⟩
        · by_cases a2 : 65 ≤ c
          · have i0 : ¬ (97 : Int) ≤ (c : Int) := by omega
            have i2 : (65 : Int) ≤ (c : Int) := by omega
            have i3 : ¬ (c : Int) ≤ 70 := by omega
            clear h0 h1 h2 hv
            go_enter Tryz.func180, Tryz.ntmps180
            go_wp2_with (go_at_call 190; refine (hd _).mono ?_; rintro e w' ⟨rfl, rfl⟩)
            go_ret
            exact ⟨rfl, rfl⟩
          · have i0 : ¬ (97 : Int) ≤ (c : Int) := by omega
            have i2 : ¬ (65 : Int) ≤ (c : Int) := by omega
            clear h0 h1 h2 hv
            go_enter Tryz.func180, Tryz.ntmps180
            go_wp2_with (go_at_call 190; refine (hd _).mono ?_; rintro e w' ⟨rfl, rfl⟩)
            go_ret
            exact ⟨rfl, rfl⟩
theorem simpleV_no {c : UInt8} (h : c ≠ 97 ∧ c ≠ 98 ∧ c ≠ 102 ∧ c ≠ 110 ∧ c ≠ 114 ∧ c ≠ 116 ∧ c ≠ 118 ∧ c ≠ 92 ∧ c ≠ 39 ∧ c ≠ 34) : simpleV c = -1 := by
  obtain ⟨n97, n98, n102, n110, n114, n116, n118, n92, n39, n34⟩ := h
  unfold simpleV
  rw [if_neg n97, if_neg n98, if_neg n102, if_neg n110, if_neg n114, if_neg n116, if_neg n118, if_neg]
  rintro (h | h | h)
  · exact n92 h
  · exact n39 h
  · exact n34 h
set_option maxHeartbeats 2000000 in
set_option maxRecDepth 100000 in
theorem refSimple_any (c : UInt8) (w : World) : Calls Tryz.prog 179 #[.int .u8 c.toNat] w fun e w' => e = .returned (.int .i64 (simpleV c)) ∧ w' = w := by
  by_cases hc : c = 97 ∨ c = 98 ∨ c = 102 ∨ c = 110 ∨ c = 114 ∨ c = 116 ∨ c = 118 ∨ c = 92 ∨ c = 39 ∨ c = 34
  · rcases hc with rfl | rfl | rfl | rfl | rfl | rfl | rfl | rfl | rfl | rfl
    all_goals
      go_enter Tryz.func179, Tryz.ntmps179
      go_wp2
      go_ret
      exact ⟨rfl, rfl⟩
  · simp only [not_or] at hc
    obtain ⟨n97, n98, n102, n110, n114, n116, n118, n92, n39, n34⟩ := hc
    have q97 : ((c.toNat : Int) == 97) = false := byte_ne n97
    have q98 : ((c.toNat : Int) == 98) = false := byte_ne n98
    have q102 : ((c.toNat : Int) == 102) = false := byte_ne n102
    have q110 : ((c.toNat : Int) == 110) = false := byte_ne n110
    have q114 : ((c.toNat : Int) == 114) = false := byte_ne n114
    have q116 : ((c.toNat : Int) == 116) = false := byte_ne n116
    have q118 : ((c.toNat : Int) == 118) = false := byte_ne n118
    have q92 : ((c.toNat : Int) == 92) = false := byte_ne n92
    have q39 : ((c.toNat : Int) == 39) = false := byte_ne n39
    have q34 : ((c.toNat : Int) == 34) = false := byte_ne n34
    rw [simpleV_no ⟨n97, n98, n102, n110, n114, n116, n118, n92, n39, n34⟩]
    clear n97 n98 n102 n110 n114 n116 n118 n92 n39 n34
    go_enter Tryz.func179, Tryz.ntmps179
    go_wp2
    go_ret
    exact ⟨rfl, rfl⟩
theorem i64_nat (n : Nat) (h : n ≤ 9223372036854775807) : IntKind.i64.wrap (n : Int) = (n : Int) := IntWalk.i64_in _ (by omega)
set_option maxHeartbeats 2000000 in
set_option maxRecDepth 100000 in
theorem refUtf8_any (n : Nat) (hv : Lib.validRune n = true) (w : World) :
    Calls Tryz.prog 181 #[.int .i64 n] w fun e w' => ∃ v, e = .returned v ∧ w'.ownsRow w.heap.size 5 1 v (Lib.encodeRune n).length (bytesV (Lib.encodeRune n)) ∧ Below w.heap.size w w' := by
  have hv' : ((0 : Int) ≤ n ∧ (n : Int) < 55296) ∨ ((57343 : Int) < n ∧ (n : Int) ≤ 1114111) := of_decide_eq_true hv
  rw [← bytesV_length, ← runeCells_bytes]
  unfold Lib.runeCells
  clear hv
  by_cases h1 : n < 128
  · have i1 : (n : Int) < 128 := by omega
    have k1 : IntKind.u8.wrap (n : Int) = (n : Int) := u8_in _ (by omega)
    rw [Lib.encodeRuneZ_one (by omega) (by omega)]
    go_enter Tryz.func181, Tryz.ntmps181
    go_wp2
    go_ret
    exact ⟨_, rfl, owns_fresh (Nat.le_refl _) 5 [Value.int .u8 ((n : Int))] (by show 1 ≤ maxLen; decide), (Below.refl _ _).alloc (Nat.le_refl _) _⟩
  · have i1 : ¬ (n : Int) < 128 := by omega
    by_cases h2 : n < 2048
    · have i2 : (n : Int) < 2048 := by omega
      have d1 : Int.tdiv (n : Int) 64 = (n : Int) / 64 := Int.tdiv_eq_ediv_of_nonneg (by omega)
      have d2 : Int.tmod (n : Int) 64 = (n : Int) % 64 := Int.tmod_eq_emod_of_nonneg (by omega)
      have a1 : IntKind.i64.wrap ((n : Int) / 64) = (n : Int) / 64 := IntWalk.i64_in _ (by omega)
      have a2 : IntKind.i64.wrap (192 + (n : Int) / 64) = 192 + (n : Int) / 64 := IntWalk.i64_in _ (by omega)
      have a3 : IntKind.i64.wrap (128 + (n : Int) % 64) = 128 + (n : Int) % 64 := IntWalk.i64_in _ (by omega)
      have b1 : IntKind.u8.wrap (192 + (n : Int) / 64) = 192 + (n : Int) / 64 := u8_in _ (by omega)
      have b2 : IntKind.u8.wrap (128 + (n : Int) % 64) = 128 + (n : Int) % 64 := u8_in _ (by omega)
      rw [Lib.encodeRuneZ_two (by omega) (by omega)]
      go_enter Tryz.func181, Tryz.ntmps181
      go_wp2
      go_ret
      exact ⟨_, rfl, owns_fresh (Nat.le_refl _) 5 [Value.int .u8 (192 + (n : Int) / 64), Value.int .u8 (128 + (n : Int) % 64)] (by show 2 ≤ maxLen; decide), (Below.refl _ _).alloc (Nat.le_refl _) _⟩
    · have i2 : ¬ (n : Int) < 2048 := by omega
      by_cases h3 : n < 65536
      · have i3 : (n : Int) < 65536 := by omega
        have d0 : Int.tdiv (n : Int) 4096 = (n : Int) / 4096 := Int.tdiv_eq_ediv_of_nonneg (by omega)
        have d1 : Int.tdiv (n : Int) 64 = (n : Int) / 64 := Int.tdiv_eq_ediv_of_nonneg (by omega)
        have d2 : Int.tmod (n : Int) 64 = (n : Int) % 64 := Int.tmod_eq_emod_of_nonneg (by omega)
        have d3 : Int.tmod ((n : Int) / 64) 64 = (n : Int) / 64 % 64 := Int.tmod_eq_emod_of_nonneg (by omega)
        have a0 : IntKind.i64.wrap ((n : Int) / 4096) = (n : Int) / 4096 := IntWalk.i64_in _ (by omega)
        have a1 : IntKind.i64.wrap ((n : Int) / 64) = (n : Int) / 64 := IntWalk.i64_in _ (by omega)
        have a2 : IntKind.i64.wrap (224 + (n : Int) / 4096) = 224 + (n : Int) / 4096 := IntWalk.i64_in _ (by omega)
        have a3 : IntKind.i64.wrap (128 + (n : Int) % 64) = 128 + (n : Int) % 64 := IntWalk.i64_in _ (by omega)
        have a4 : IntKind.i64.wrap (128 + (n : Int) / 64 % 64) = 128 + (n : Int) / 64 % 64 := IntWalk.i64_in _ (by omega)
        have b1 : IntKind.u8.wrap (224 + (n : Int) / 4096) = 224 + (n : Int) / 4096 := u8_in _ (by omega)
        have b2 : IntKind.u8.wrap (128 + (n : Int) % 64) = 128 + (n : Int) % 64 := u8_in _ (by omega)
        have b3 : IntKind.u8.wrap (128 + (n : Int) / 64 % 64) = 128 + (n : Int) / 64 % 64 := u8_in _ (by omega)
        rw [Lib.encodeRuneZ_three (by omega)]
        go_enter Tryz.func181, Tryz.ntmps181
        go_wp2
        go_ret
        exact ⟨_, rfl, owns_fresh (Nat.le_refl _) 5 [Value.int .u8 (224 + (n : Int) / 4096), Value.int .u8 (128 + (n : Int) / 64 % 64), Value.int .u8 (128 + (n : Int) % 64)] (by show 3 ≤ maxLen; decide), (Below.refl _ _).alloc (Nat.le_refl _) _⟩
      · have i3 : ¬ (n : Int) < 65536 := by omega
        have d9 : Int.tdiv (n : Int) 262144 = (n : Int) / 262144 := Int.tdiv_eq_ediv_of_nonneg (by omega)
        have d0 : Int.tdiv (n : Int) 4096 = (n : Int) / 4096 := Int.tdiv_eq_ediv_of_nonneg (by omega)
        have d1 : Int.tdiv (n : Int) 64 = (n : Int) / 64 := Int.tdiv_eq_ediv_of_nonneg (by omega)
        have d2 : Int.tmod (n : Int) 64 = (n : Int) % 64 := Int.tmod_eq_emod_of_nonneg (by omega)
        have d3 : Int.tmod ((n : Int) / 64) 64 = (n : Int) / 64 % 64 := Int.tmod_eq_emod_of_nonneg (by omega)
        have d4 : Int.tmod ((n : Int) / 4096) 64 = (n : Int) / 4096 % 64 := Int.tmod_eq_emod_of_nonneg (by omega)
        have a9 : IntKind.i64.wrap ((n : Int) / 262144) = (n : Int) / 262144 := IntWalk.i64_in _ (by omega)
        have a0 : IntKind.i64.wrap ((n : Int) / 4096) = (n : Int) / 4096 := IntWalk.i64_in _ (by omega)
        have a1 : IntKind.i64.wrap ((n : Int) / 64) = (n : Int) / 64 := IntWalk.i64_in _ (by omega)
        have a2 : IntKind.i64.wrap (240 + (n : Int) / 262144) = 240 + (n : Int) / 262144 := IntWalk.i64_in _ (by omega)
        have a3 : IntKind.i64.wrap (128 + (n : Int) % 64) = 128 + (n : Int) % 64 := IntWalk.i64_in _ (by omega)
        have a4 : IntKind.i64.wrap (128 + (n : Int) / 64 % 64) = 128 + (n : Int) / 64 % 64 := IntWalk.i64_in _ (by omega)
        have a5 : IntKind.i64.wrap (128 + (n : Int) / 4096 % 64) = 128 + (n : Int) / 4096 % 64 := IntWalk.i64_in _ (by omega)
        have b1 : IntKind.u8.wrap (240 + (n : Int) / 262144) = 240 + (n : Int) / 262144 := u8_in _ (by omega)
        have b2 : IntKind.u8.wrap (128 + (n : Int) % 64) = 128 + (n : Int) % 64 := u8_in _ (by omega)
        have b3 : IntKind.u8.wrap (128 + (n : Int) / 64 % 64) = 128 + (n : Int) / 64 % 64 := u8_in _ (by omega)
        have b4 : IntKind.u8.wrap (128 + (n : Int) / 4096 % 64) = 128 + (n : Int) / 4096 % 64 := u8_in _ (by omega)
        rw [Lib.encodeRuneZ_four (by omega) (by omega)]
        go_enter Tryz.func181, Tryz.ntmps181
        go_wp2
        go_ret
        exact ⟨_, rfl, owns_fresh (Nat.le_refl _) 5 [Value.int .u8 (240 + (n : Int) / 262144), Value.int .u8 (128 + (n : Int) / 4096 % 64), Value.int .u8 (128 + (n : Int) / 64 % 64), Value.int .u8 (128 + (n : Int) % 64)] (by show 4 ≤ maxLen; decide), (Below.refl _ _).alloc (Nat.le_refl _) _⟩
end Go.Proofs.YtchggapclmdpaaaGreatDoor
