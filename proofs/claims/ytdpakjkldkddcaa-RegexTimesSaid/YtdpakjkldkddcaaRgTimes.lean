/- Patterns: RegexTimes, walked at any bytes. -/
import Derived.Test.YtdpakjkldkddcaaG49
import Derived.Test.YtdpakjkldkddcaaRgWord
import Derived.Deep.RegionHeld3
import Derived.Deep.CutRange
import Derived.Outline
namespace Go.Proofs.Ytdpakjkldkddcaa
open Go.RowKit Go.Lib
open RX (PS Tr Pr Stp Th)

theorem fits_eq (P S : ByteArray) (x : Bool) (h : RX.fitsRx P.data.toList S.data.toList = some x) (hs : S.size ≤ 50000) (w : World) : Calls Try.prog 7 #[.string P, .string S] w fun e w' => e = .returned (.tuple #[.bool true, .bool x]) ∧ Below w.heap.size w w' := by
  refine (fits_any P S w hs).mono ?_
  rintro e w' ⟨rfl, hb⟩
  refine ⟨?_, hb⟩
  unfold fitA fitB
  rw [h]
  rfl
set_option maxHeartbeats 16000000 in
set_option maxRecDepth 100000 in
theorem regexTimes_any (c n m k : UInt8) (w : World) : Calls Try.prog 5 #[.int .u8 c.toNat, .int .u8 n.toNat, .int .u8 m.toNat, .int .u8 k.toNat] w fun e w' => e = .returned (.bool true) ∧ Below w.heap.size w w' := by
  obtain ⟨least, hl⟩ : ∃ l, n.toNat % 12 = l := ⟨_, rfl⟩
  obtain ⟨mm, hmm⟩ : ∃ l, m.toNat % 12 = l := ⟨_, rfl⟩
  obtain ⟨many, hmany⟩ : ∃ l, k.toNat % 30 = l := ⟨_, rfl⟩
  have hl12 : least < 12 := by omega
  have hm12 : mm < 12 := by omega
  have hk30 : many < 30 := by omega
  have m1 : ((n.toNat : Nat) : Int) % 12 = (least : Int) := by omega
  have m2 : ((m.toNat : Nat) : Int) % 12 = (mm : Int) := by omega
  have m3 : ((k.toNat : Nat) : Int) % 30 = (many : Int) := by omega
  have n1 := UInt8.toNat_lt n
  have n2 := UInt8.toNat_lt m
  have n3 := UInt8.toNat_lt k
  have k1 : IntKind.i64.wrap ((n.toNat : Nat) : Int) = ((n.toNat : Nat) : Int) := IntWalk.i64_in _ (by omega)
  have k2 : IntKind.i64.wrap ((m.toNat : Nat) : Int) = ((m.toNat : Nat) : Int) := IntWalk.i64_in _ (by omega)
  have k3 : IntKind.i64.wrap ((k.toNat : Nat) : Int) = ((k.toNat : Nat) : Int) := IntWalk.i64_in _ (by omega)
  obtain ⟨most, hmost⟩ : ∃ l, least + mm = l := ⟨_, rfl⟩
  have hlm : least ≤ most := by omega
  have hm30 : most < 30 := by omega
  have k4 : IntKind.i64.wrap ((least : Int) + (mm : Int)) = (most : Int) := by rw [IntWalk.i64_in _ (by omega)]; omega
  obtain ⟨i0, hi0, hz0, hz1, hz2⟩ := info_parts Try.infoByteM
  have HI := Lib.hid (show _ ∧ _ ∧ _ ∧ _ from ⟨hi0, hz0, hz1, hz2⟩)
  clear hi0 hz0 hz1 hz2 n1 n2 n3 hl hmm hmany hmost hm12
  go_enter Try.func5, Try.ntmps5
  go_wp2_with fail
  rw [m1, m2, m3]
  clear m1 m2 m3 k1 k2 k3 k4
  go_loopg [12, 13] (many + 1) (fun gk pv iv wr => ∃ i : Nat, gk + i = many + 1 ∧ i ≤ many ∧ iv = .int .i64 i ∧ Hid (wr.ownsRow w.heap.size 5 1 pv i (bytesV (List.replicate i c)) ∧ Below w.heap.size w wr))
  case atStart => exact ⟨0, rfl, Nat.zero_le _, rfl, Lib.hid ⟨⟨rfl, .inl ⟨rfl, rfl⟩⟩, Below.refl _ _⟩⟩
  case round =>
    obtain ⟨i, hgk, him, rfl, HR⟩ := hrel
    have w2 : IntKind.i64.wrap ((i : Int) + 1) = (i : Int) + 1 := IntWalk.i64_in _ (by omega)
    obtain ⟨Ap, cp, rfl, _, _⟩ := owns_slice HR.out.1
    by_cases hlt : i < many
    · have i3 : (i : Int) < (many : Int) := by omega
      obtain ⟨hi0, hz0, hz1, hz2⟩ := HI.out
      have hle : w.heap.size ≤ wr.heap.size := HR.out.2.size
      have hor := HR.out.1
      have hgk1 : gk - 1 < gk := by omega
      go_wp2_with (first
        | (at_builtin; refine wpList_append_full _ rfl _ _ 26 rfl w.heap.size 5 i0 _ 1 1 Try.underlying26 hi0 hz0 hz1 hz2 rfl (by omega) (.slice Ap i cp) i (bytesV (List.replicate i c)) rfl (hor.alloc _) ⟨wr.heap.size, 0, none⟩ 1 1 [.int .u8 c.toNat] rfl rfl (cells_newL wr [.int .u8 c.toNat] _) (by simp [Value.oneCell']) (by omega) (by unfold maxLen; omega) (by omega) (by simp; omega) ?_; intro g6 c6 w6 hown6 hg6 hl6 _; have H6 := Lib.hid (show _ ∧ _ from ⟨hown6, grown_after HR.out.2 hle hor hg6⟩); clear hown6 hg6 hl6)
        | fail)
      go_roundg (gk - 1)
      case measure => exact hgk1
      case rel =>
        refine ⟨i + 1, by omega, hlt, by simp, Lib.hid ⟨?_, H6.out.2⟩⟩
        rw [List.replicate_succ', bytesV_append]
        exact H6.out.1
    · obtain rfl : i = many := by omega
      have i3 : ¬ ((i : Nat) : Int) < (i : Int) := by omega
      go_wp2_with fail
      -- REGIONS
      have hT : ∀ w', Below wr.heap.size wr w' → (convert 26 9 (.slice Ap i cp)).run Try.prog w' = .ok (.string (ByteArray.mk (List.replicate i c).toArray)) w' := fun w' hb => own_text (owns_below HR.out.1 hb)
      have hTl : (ByteArray.mk (List.replicate i c).toArray).data.toList = List.replicate i c := by simp
      have hTs : (ByteArray.mk (List.replicate i c).toArray).size ≤ 50000 := by
        show (List.replicate i c).toArray.size ≤ 50000
        rw [List.size_toArray, List.length_replicate]; omega
      obtain ⟨T, hTe⟩ : ∃ T : ByteArray, ByteArray.mk (List.replicate i c).toArray = T := ⟨_, rfl⟩
      rw [hTe] at hT hTl hTs
      have hA : RX.fitsRx (ByteArray.mk #[91] ++ ByteArray.mk (RX.escB c).toArray ++ ByteArray.mk #[93] ++ ByteArray.mk #[123] ++ ByteArray.mk (RX.decN least).toArray ++ ByteArray.mk #[44] ++ ByteArray.mk (RX.decN most).toArray ++ ByteArray.mk #[125]).data.toList T.data.toList = some (decide (least ≤ i ∧ i ≤ most)) := by
        rw [hTl, ← RX.law_times3 c least most i (by omega) hm30 hlm]
        congr 1
        simp
      have hB : RX.fitsRx (ByteArray.mk #[91] ++ ByteArray.mk (RX.escB c).toArray ++ ByteArray.mk #[93] ++ ByteArray.mk #[123] ++ ByteArray.mk (RX.decN least).toArray ++ ByteArray.mk #[44, 125]).data.toList T.data.toList = some (decide (least ≤ i)) := by
        rw [hTl, ← RX.law_times2 c least i (by omega)]
        congr 1
        simp
      have hC : RX.fitsRx (ByteArray.mk #[91] ++ ByteArray.mk (RX.escB c).toArray ++ ByteArray.mk #[93] ++ ByteArray.mk #[123] ++ ByteArray.mk (RX.decN least).toArray ++ ByteArray.mk #[125]).data.toList T.data.toList = some (decide (i = least)) := by
        rw [hTl, ← RX.law_times1 c least i (by omega)]
        congr 1
        simp
      have HT := Lib.hid (show _ ∧ _ ∧ _ ∧ _ ∧ _ from ⟨hT, hTs, hA, hB, hC⟩)
      clear hT hTl hTs hTe hA hB hC
      have hh := (RX.escB_le c).2
      have hd1 := (RX.decN_le least).2
      have hd2 := (RX.decN_le most).2
      refine (hex_any c wr).mono ?_
      rintro e w5 ⟨rfl, hb5⟩
      have H5 := Lib.hid (show _ ∧ _ from ⟨hb5, HR.out.2.trans (hb5.mono HR.out.2.size)⟩)
      clear hb5
      have hkeep0 : ∀ v1 v2, (Below w5.heap.size w5 v1 ∧ (convert 26 9 (.slice Ap i cp)).run Try.prog v1 = .ok (.string T) v1) → Below v1.heap.size v1 v2 → (Below w5.heap.size w5 v2 ∧ (convert 26 9 (.slice Ap i cp)).run Try.prog v2 = .ok (.string T) v2) := fun v1 v2 h hb =>
        have hb2 := h.1.trans (hb.mono h.1.size)
        ⟨hb2, HT.out.1 v2 (H5.out.1.trans (hb2.mono H5.out.1.size))⟩
      have hst0 : Below w5.heap.size w5 w5.drew ∧ (convert 26 9 (.slice Ap i cp)).run Try.prog w5.drew = .ok (.string T) w5.drew := ⟨(Below.refl _ _).drew, HT.out.1 _ (H5.out.1.drew)⟩
      go_upto_region 10 with (fail)
      go_cut [15, 16] from 45 to 60 (fun sa sx wc => sa = .bool true ∧ sx = .bool (decide (least ≤ i ∧ i ≤ most)) ∧ Hid (Below w5.heap.size w5 wc))
      case first =>
        have q1 : ¬ 9223372036854775807 < 1 + (RX.escB c).length + 1 + 1 := by omega
        have q2 : ¬ 9223372036854775807 < 1 + (RX.escB c).length + 1 + 1 + (RX.decN least).length := by omega
        have q3 : ¬ 9223372036854775807 < 1 + (RX.escB c).length + 1 + 1 + (RX.decN least).length + 1 := by omega
        have q4 : ¬ 9223372036854775807 < 1 + (RX.escB c).length + 1 + 1 + (RX.decN least).length + 1 + (RX.decN most).length := by omega
        have q5 : ¬ 9223372036854775807 < 1 + (RX.escB c).length + 1 + 1 + (RX.decN least).length + 1 + (RX.decN most).length + 1 := by omega
        go_region_held3 (fun w' => Below w5.heap.size w5 w' ∧ (convert 26 9 (.slice Ap i cp)).run Try.prog w' = .ok (.string T) w') (first | assumption | exact hst0 | fail)
          (first
            | (go_at_call 9; refine (digits_any _ (by omega) _).mono ?_; rintro e v7 ⟨rfl, hb7⟩; have hc7 := hkeep0 _ v7 (by assumption) hb7; clear hb7)
            | (go_at_call 7; refine (fits_eq _ _ _ HT.out.2.2.1 HT.out.2.1 _).mono ?_; rintro e y8 ⟨rfl, hb8⟩; have hc8 := hkeep0 _ y8 (by assumption) hb8; clear hb8)
            | fail)
        all_goals
          go_wp2_with fail
          go_meet
          case rel => exact ⟨rfl, by first | rfl | simp, Lib.hid hc8.1⟩
      case rest =>
      obtain ⟨rfl, rfl, HC0⟩ := hcut
      rename World => y0
      have H6 := Lib.hid (show _ ∧ _ from ⟨H5.out.1.trans (HC0.out.mono H5.out.1.size), HR.out.2.trans ((H5.out.1.trans (HC0.out.mono H5.out.1.size)).mono HR.out.2.size)⟩)
      clear hkeep0 hst0 HC0
      obtain ⟨x0, hx0⟩ : ∃ b : Bool, decide (least ≤ i ∧ i ≤ most) = b := ⟨_, rfl⟩
      rw [hx0]
      have HX0 := Lib.hid hx0
      clear hx0
      have hkeep1 : ∀ v1 v2, (Below y0.heap.size y0 v1 ∧ (convert 26 9 (.slice Ap i cp)).run Try.prog v1 = .ok (.string T) v1) → Below v1.heap.size v1 v2 → (Below y0.heap.size y0 v2 ∧ (convert 26 9 (.slice Ap i cp)).run Try.prog v2 = .ok (.string T) v2) := fun v1 v2 h hb =>
        have hb2 := h.1.trans (hb.mono h.1.size)
        ⟨hb2, HT.out.1 v2 (H6.out.1.trans (hb2.mono H6.out.1.size))⟩
      have hst1 : Below y0.heap.size y0 y0.drew ∧ (convert 26 9 (.slice Ap i cp)).run Try.prog y0.drew = .ok (.string T) y0.drew := ⟨(Below.refl _ _).drew, HT.out.1 _ (H6.out.1.drew)⟩
      go_upto_region 11 with (fail)
      go_cut [17, 18] from 61 to 72 (fun sa sx wc => sa = .bool true ∧ sx = .bool (decide (least ≤ i)) ∧ Hid (Below y0.heap.size y0 wc))
      case first =>
        have q1 : ¬ 9223372036854775807 < 1 + (RX.escB c).length + 1 + 1 := by omega
        have q2 : ¬ 9223372036854775807 < 1 + (RX.escB c).length + 1 + 1 + (RX.decN least).length := by omega
        have q3 : ¬ 9223372036854775807 < 1 + (RX.escB c).length + 1 + 1 + (RX.decN least).length + 2 := by omega
        go_region_held3 (fun w' => Below y0.heap.size y0 w' ∧ (convert 26 9 (.slice Ap i cp)).run Try.prog w' = .ok (.string T) w') (first | assumption | exact hst1 | fail)
          (first
            | (go_at_call 9; refine (digits_any _ (by omega) _).mono ?_; rintro e v7 ⟨rfl, hb7⟩; have hc7 := hkeep1 _ v7 (by assumption) hb7; clear hb7)
            | (go_at_call 7; refine (fits_eq _ _ _ HT.out.2.2.2.1 HT.out.2.1 _).mono ?_; rintro e y8 ⟨rfl, hb8⟩; have hc8 := hkeep1 _ y8 (by assumption) hb8; clear hb8)
            | fail)
        all_goals
          go_wp2_with fail
          go_meet
          case rel => exact ⟨rfl, by first | rfl | simp, Lib.hid hc8.1⟩
      case rest =>
      obtain ⟨rfl, rfl, HC1⟩ := hcut
      rename World => y1
      have H7 := Lib.hid (show _ ∧ _ from ⟨H6.out.1.trans (HC1.out.mono H6.out.1.size), HR.out.2.trans ((H6.out.1.trans (HC1.out.mono H6.out.1.size)).mono HR.out.2.size)⟩)
      clear hkeep1 hst1 HC1
      obtain ⟨x1, hx1⟩ : ∃ b : Bool, decide (least ≤ i) = b := ⟨_, rfl⟩
      rw [hx1]
      have HX1 := Lib.hid hx1
      clear hx1
      have hkeep2 : ∀ v1 v2, (Below y1.heap.size y1 v1 ∧ (convert 26 9 (.slice Ap i cp)).run Try.prog v1 = .ok (.string T) v1) → Below v1.heap.size v1 v2 → (Below y1.heap.size y1 v2 ∧ (convert 26 9 (.slice Ap i cp)).run Try.prog v2 = .ok (.string T) v2) := fun v1 v2 h hb =>
        have hb2 := h.1.trans (hb.mono h.1.size)
        ⟨hb2, HT.out.1 v2 (H7.out.1.trans (hb2.mono H7.out.1.size))⟩
      have hst2 : Below y1.heap.size y1 y1.drew ∧ (convert 26 9 (.slice Ap i cp)).run Try.prog y1.drew = .ok (.string T) y1.drew := ⟨(Below.refl _ _).drew, HT.out.1 _ (H7.out.1.drew)⟩
      go_upto_region 12 with (fail)
      go_cut [19, 20] from 73 to 84 (fun sa sx wc => sa = .bool true ∧ sx = .bool (decide (i = least)) ∧ Hid (Below y1.heap.size y1 wc))
      case first =>
        have q1 : ¬ 9223372036854775807 < 1 + (RX.escB c).length + 1 + 1 := by omega
        have q2 : ¬ 9223372036854775807 < 1 + (RX.escB c).length + 1 + 1 + (RX.decN least).length := by omega
        have q3 : ¬ 9223372036854775807 < 1 + (RX.escB c).length + 1 + 1 + (RX.decN least).length + 1 := by omega
        go_region_held3 (fun w' => Below y1.heap.size y1 w' ∧ (convert 26 9 (.slice Ap i cp)).run Try.prog w' = .ok (.string T) w') (first | assumption | exact hst2 | fail)
          (first
            | (go_at_call 9; refine (digits_any _ (by omega) _).mono ?_; rintro e v7 ⟨rfl, hb7⟩; have hc7 := hkeep2 _ v7 (by assumption) hb7; clear hb7)
            | (go_at_call 7; refine (fits_eq _ _ _ HT.out.2.2.2.2 HT.out.2.1 _).mono ?_; rintro e y8 ⟨rfl, hb8⟩; have hc8 := hkeep2 _ y8 (by assumption) hb8; clear hb8)
            | fail)
        all_goals
          go_wp2_with fail
          go_meet
          case rel => exact ⟨rfl, by first | rfl | simp, Lib.hid hc8.1⟩
      case rest =>
      obtain ⟨rfl, rfl, HC2⟩ := hcut
      rename World => y2
      have H8 := Lib.hid (show _ ∧ _ from ⟨H7.out.1.trans (HC2.out.mono H7.out.1.size), HR.out.2.trans ((H7.out.1.trans (HC2.out.mono H7.out.1.size)).mono HR.out.2.size)⟩)
      clear hkeep2 hst2 HC2
      obtain ⟨x2, hx2⟩ : ∃ b : Bool, decide (i = least) = b := ⟨_, rfl⟩
      rw [hx2]
      have HX2 := Lib.hid hx2
      clear hx2
      go_wp2_with fail
      refine (known_any y2).mono ?_
      rintro e y9 ⟨rfl, hb9⟩
      have H9 := Lib.hid (H8.out.2.trans (hb9.mono H8.out.2.size))
      clear hb9
      have q0 := HX0.out
      have q1 := HX1.out
      have q2 := HX2.out
      clear HX0 HX1 HX2
      have hc4 : i < least ∨ i = least ∨ (least < i ∧ i ≤ most) ∨ most < i := by omega
      rcases hc4 with h | h | h | h
      · have t0 : ¬ (least : Int) ≤ (i : Int) := by omega
        have t1 : ((i : Int) == (least : Int)) = false := by simp; omega
        rw [decide_eq_false (by omega)] at q0 q1 q2
        subst q0 q1 q2
        clear h
        go_wp2_with fail
        exact bodyPost_ret (v := .bool true) (by simp [results, Try.results5, go_sem]) rfl ⟨rfl, H9.out⟩
      · subst h
        rw [decide_eq_true (by omega)] at q0 q1 q2
        subst q0 q1 q2
        have t0 : (i : Int) ≤ (most : Int) := by omega
        go_wp2_with fail
        exact bodyPost_ret (v := .bool true) (by simp [results, Try.results5, go_sem]) rfl ⟨rfl, H9.out⟩
      · have t0 : (least : Int) ≤ (i : Int) := by omega
        have t1 : ((i : Int) == (least : Int)) = false := by simp; omega
        have t2 : (i : Int) ≤ (most : Int) := by omega
        rw [decide_eq_true (by omega)] at q0 q1
        rw [decide_eq_false (by omega)] at q2
        subst q0 q1 q2
        clear h
        go_wp2_with fail
        exact bodyPost_ret (v := .bool true) (by simp [results, Try.results5, go_sem]) rfl ⟨rfl, H9.out⟩
      · have t0 : (least : Int) ≤ (i : Int) := by omega
        have t1 : ((i : Int) == (least : Int)) = false := by simp; omega
        have t2 : ¬ (i : Int) ≤ (most : Int) := by omega
        rw [decide_eq_false (by omega)] at q0 q2
        rw [decide_eq_true (by omega)] at q1
        subst q0 q1 q2
        go_wp2_with fail
        exact bodyPost_ret (v := .bool true) (by simp [results, Try.results5, go_sem, h]) rfl ⟨rfl, H9.out⟩
end Go.Proofs.Ytdpakjkldkddcaa
