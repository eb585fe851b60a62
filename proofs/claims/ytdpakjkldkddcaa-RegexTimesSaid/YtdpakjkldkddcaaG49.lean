/- Patterns: a number's digits. Patterns: RegexParts, walked at any texts. -/
import Derived.Test.YtdpakjkldkddcaaRgHex
import Derived.Test.YtdpakjkldkddcaaG46
namespace Go.Proofs.Ytdpakjkldkddcaa
open Go.RowKit Go.Lib
open RX (PS Tr Pr Stp Th)

theorem digit_nat {n : Nat} (h : n < 10) : (((UInt8.ofNat (48 + n)).toNat : Nat) : Int) = 48 + (n : Int) := by
  rw [UInt8.toNat_ofNat']
  omega
set_option maxHeartbeats 4000000 in
set_option maxRecDepth 100000 in
theorem digits_small (n : Nat) (h : n < 10) (w : World) : Calls Try.prog 9 #[.int .i64 n] w fun e w' => e = .returned (.string ⟨#[UInt8.ofNat (48 + n)]⟩) ∧ Below w.heap.size w w' := by
  have hv : bytesV [UInt8.ofNat (48 + n)] = [.int .u8 (48 + (n : Int))] := by
    unfold bytesV
    rw [List.map_cons, List.map_nil, digit_nat h]
  have ho := owns_fresh (w := w) (Nat.zero_le _) 5 (bytesV [UInt8.ofNat (48 + n)]) (by unfold maxLen; simp [bytesV])
  have hcv1 := own_text ho
  rw [hv] at hcv1
  have hcv2 : (convert 26 9 (.slice (some ⟨w.heap.size, 0, none⟩) 1 1)).run Try.prog (w.alloc (.cells #[.int .u8 (48 + (n : Int))] 5)) = .ok (.string ⟨#[UInt8.ofNat (48 + n)]⟩) (w.alloc (.cells #[.int .u8 (48 + (n : Int))] 5)) := hcv1
  have hb1 : Below w.heap.size w (w.alloc (.cells #[.int .u8 (48 + (n : Int))] 5)) := (Below.refl _ _).alloc (Nat.le_refl _) _
  have i1 : (n : Int) < 10 := by omega
  have k1 : IntKind.u8.wrap (n : Int) = (n : Int) := by rw [IntKind.wrap_u8]; omega
  have k2 : IntKind.u8.wrap (48 + (n : Int)) = 48 + (n : Int) := by rw [IntKind.wrap_u8]; omega
  have HB := Lib.hid hb1
  clear hb1 h hv ho hcv1
  go_enter Try.func9, Try.ntmps9
  go_wp2_with fail
  exact bodyPost_ret (v := .string ⟨#[UInt8.ofNat (48 + n)]⟩) (by simp [results, Try.results9, go_sem]) rfl ⟨rfl, HB.out⟩
set_option maxHeartbeats 4000000 in
set_option maxRecDepth 100000 in
theorem digits_any (n : Nat) (h : n < 30) (w : World) : Calls Try.prog 9 #[.int .i64 n] w fun e w' => e = .returned (.string ⟨(RX.decN n).toArray⟩) ∧ Below w.heap.size w w' := by
  by_cases h10 : n < 10
  · have e : RX.decN n = [UInt8.ofNat (48 + n)] := by unfold RX.decN; rw [if_pos h10]
    rw [e]
    exact digits_small n h10 w
  · have e : RX.decN n = [UInt8.ofNat (48 + n / 10), UInt8.ofNat (48 + n % 10)] := by unfold RX.decN; rw [if_neg h10]
    have i1 : ¬ (n : Int) < 10 := by omega
    have HN := Lib.hid (show _ ∧ _ ∧ _ from ⟨(by omega : n / 10 < 10), (by omega : n % 10 < 10), e⟩)
    have k1 : IntKind.i64.wrap ((n : Int) / 10) = ((n / 10 : Nat) : Int) := by rw [IntWalk.i64_in _ (by omega)]; omega
    have k2 : Int.tdiv (n : Int) 10 = ((n / 10 : Nat) : Int) := by rw [Int.tdiv_eq_ediv_of_nonneg (by omega)]; omega
    have k3 : Int.tmod (n : Int) 10 = ((n % 10 : Nat) : Int) := by rw [Int.tmod_eq_emod_of_nonneg (by omega)]; omega
    clear h h10 e
    go_enter Try.func9, Try.ntmps9
    go_wp2_with fail
    refine (digits_small (n / 10) HN.out.1 w).mono ?_
    rintro e w1 ⟨rfl, hb1⟩
    have H1 := Lib.hid hb1
    clear hb1
    go_wp2_with fail
    refine (digits_small (n % 10) HN.out.2.1 w1).mono ?_
    rintro e w2 ⟨rfl, hb2⟩
    have H2 := Lib.hid (H1.out.trans (hb2.mono H1.out.size))
    clear hb2
    go_wp2_with fail
    refine bodyPost_ret (v := .string (ByteArray.mk #[UInt8.ofNat (48 + n / 10)] ++ ByteArray.mk #[UInt8.ofNat (48 + n % 10)])) (by simp [results, Try.results9, go_sem]) rfl ⟨?_, H2.out⟩
    rw [HN.out.2.2]
    rfl
end Go.Proofs.Ytdpakjkldkddcaa
namespace Go.Proofs.Ytdpakjkldkddcaa
open Go.RowKit Go.Lib
open RX (PS Tr Pr Stp Th)

theorem fit_size {p s : ByteArray} (h : fitA p s = true) : p.size ≤ 500 := by
  unfold fitA at h
  obtain ⟨x, hx⟩ := Option.isSome_iff_exists.1 h
  obtain ⟨_, _, _, h1, _⟩ := RX.fits_of hx
  rwa [Array.length_toList] at h1
theorem fit_some {p s : ByteArray} (h : fitA p s = true) : RX.fitsRx p.data.toList s.data.toList = some (fitB p s) := by
  unfold fitA at h
  unfold fitB
  obtain ⟨x, hx⟩ := Option.isSome_iff_exists.1 h
  rw [hx]; rfl
theorem data_append (a b : ByteArray) : (a ++ b).data.toList = a.data.toList ++ b.data.toList := by simp
/-- The four laws at hand. -/
theorem law_or {p q s : ByteArray} (hp : fitA p s = true) (hq : fitA q s = true) (hz : fitA (ByteArray.mk #[40, 63, 58] ++ p ++ ByteArray.mk #[41, 124, 40, 63, 58] ++ q ++ ByteArray.mk #[41]) s = true) :
    fitB (ByteArray.mk #[40, 63, 58] ++ p ++ ByteArray.mk #[41, 124, 40, 63, 58] ++ q ++ ByteArray.mk #[41]) s = (fitB p s || fitB q s) := by
  have h := fit_some hz
  simp only [data_append] at h
  refine RX.parts_or (fit_some hp) (fit_some hq) (Eq.trans ?_ h)
  congr 1
  simp
theorem law_group {p s : ByteArray} (hp : fitA p s = true) (hz : fitA (ByteArray.mk #[40] ++ p ++ ByteArray.mk #[41]) s = true) : fitB (ByteArray.mk #[40] ++ p ++ ByteArray.mk #[41]) s = fitB p s := by
  have h := fit_some hz
  simp only [data_append] at h
  refine RX.parts_group (fit_some hp) (Eq.trans ?_ h)
  congr 1
theorem law_one {p s : ByteArray} (hp : fitA p s = true) (hz : fitA (ByteArray.mk #[40, 63, 58] ++ p ++ ByteArray.mk #[41, 123, 49, 125]) s = true) : fitB (ByteArray.mk #[40, 63, 58] ++ p ++ ByteArray.mk #[41, 123, 49, 125]) s = fitB p s := by
  have h := fit_some hz
  simp only [data_append] at h
  refine RX.parts_one (fit_some hp) (Eq.trans ?_ h)
  congr 1
theorem law_maybe {p s : ByteArray} (hp : fitA p s = true) (hz : fitA (ByteArray.mk #[40, 63, 58] ++ p ++ ByteArray.mk #[41, 63]) (ByteArray.mk #[]) = true) : fitB (ByteArray.mk #[40, 63, 58] ++ p ++ ByteArray.mk #[41, 63]) (ByteArray.mk #[]) = true := by
  have h := fit_some hz
  simp only [data_append] at h
  refine RX.parts_maybe (fit_some hp) (Eq.trans ?_ h)
  congr 1
set_option maxHeartbeats 16000000 in
set_option maxRecDepth 100000 in
theorem regexParts_any (p q s : ByteArray) (w : World) : Calls Try.prog 3 #[.string p, .string q, .string s] w fun e w' => e = .returned (.bool true) ∧ Below w.heap.size w w' := by
  by_cases hs : s.size ≤ 2000
  · have i1 : ¬ (2000 : Int) < (s.size : Int) := by omega
    have HS := Lib.hid hs
    clear hs
    go_enter Try.func3, Try.ntmps3
    go_wp2_with fail
    refine (known_any w).mono ?_
    rintro e w1 ⟨rfl, hb1⟩
    have H1 := Lib.hid hb1
    clear hb1
    go_wp2_with fail
    refine (fits_any p s w1 (by have := HS.out; omega)).mono ?_
    rintro e w2 ⟨rfl, hb2⟩
    have H2 := Lib.hid (H1.out.trans (hb2.mono H1.out.size))
    clear hb2
    obtain ⟨a, ha⟩ : ∃ a, fitA p s = a := ⟨_, rfl⟩
    obtain ⟨x, hx⟩ : ∃ x, fitB p s = x := ⟨_, rfl⟩
    rw [ha, hx]
    have HA := Lib.hid (show _ ∧ _ from ⟨ha, hx⟩)
    clear ha hx
    go_wp2_with fail
    refine (fits_any q s w2 (by have := HS.out; omega)).mono ?_
    rintro e w3 ⟨rfl, hb3⟩
    have H3 := Lib.hid (H2.out.trans (hb3.mono H2.out.size))
    clear hb3
    obtain ⟨b, hb⟩ : ∃ b, fitA q s = b := ⟨_, rfl⟩
    obtain ⟨y, hy⟩ : ∃ y, fitB q s = y := ⟨_, rfl⟩
    rw [hb, hy]
    have HB := Lib.hid (show _ ∧ _ from ⟨hb, hy⟩)
    clear hb hy
    cases a with
    | false =>
      go_wp2_with fail
      exact bodyPost_ret (v := .bool true) (by simp [results, Try.results3, go_sem]) rfl ⟨rfl, H3.out⟩
    | true =>
      cases b with
      | false =>
        go_wp2_with fail
        exact bodyPost_ret (v := .bool true) (by simp [results, Try.results3, go_sem]) rfl ⟨rfl, H3.out⟩
      | true =>
        have hp5 := fit_size HA.out.1
        have hq5 := fit_size HB.out.1
        go_wp2_with fail
        -- FOUR
        refine (fits_any (ByteArray.mk #[40, 63, 58] ++ p ++ ByteArray.mk #[41, 124, 40, 63, 58] ++ q ++ ByteArray.mk #[41]) s w3 (by first | (have := HS.out; omega) | decide)).mono ?_
        rintro e w4 ⟨rfl, hb4⟩
        have H4 := Lib.hid (H3.out.trans (hb4.mono H3.out.size))
        clear hb4
        obtain ⟨c0, hc0⟩ : ∃ c, fitA (ByteArray.mk #[40, 63, 58] ++ p ++ ByteArray.mk #[41, 124, 40, 63, 58] ++ q ++ ByteArray.mk #[41]) s = c := ⟨_, rfl⟩
        obtain ⟨z0, hz0⟩ : ∃ z, fitB (ByteArray.mk #[40, 63, 58] ++ p ++ ByteArray.mk #[41, 124, 40, 63, 58] ++ q ++ ByteArray.mk #[41]) s = z := ⟨_, rfl⟩
        rw [hc0, hz0]
        have G0 : Hid (c0 = true → z0 = (x || y)) := Lib.hid fun h => by
          subst h
          have h1 := law_or HA.out.1 HB.out.1 hc0
          rw [hz0, HA.out.2, HB.out.2] at h1
          exact h1
        clear hc0 hz0
        go_wp2_with fail
        refine (fits_any (ByteArray.mk #[40] ++ p ++ ByteArray.mk #[41]) s w4 (by first | (have := HS.out; omega) | decide)).mono ?_
        rintro e w5 ⟨rfl, hb5⟩
        have H5 := Lib.hid (H4.out.trans (hb5.mono H4.out.size))
        clear hb5
        obtain ⟨c1, hc1⟩ : ∃ c, fitA (ByteArray.mk #[40] ++ p ++ ByteArray.mk #[41]) s = c := ⟨_, rfl⟩
        obtain ⟨z1, hz1⟩ : ∃ z, fitB (ByteArray.mk #[40] ++ p ++ ByteArray.mk #[41]) s = z := ⟨_, rfl⟩
        rw [hc1, hz1]
        have G1 : Hid (c1 = true → z1 = x) := Lib.hid fun h => by
          subst h
          have h1 := law_group HA.out.1 hc1
          rw [hz1, HA.out.2] at h1
          exact h1
        clear hc1 hz1
        go_wp2_with fail
        refine (fits_any (ByteArray.mk #[40, 63, 58] ++ p ++ ByteArray.mk #[41, 123, 49, 125]) s w5 (by first | (have := HS.out; omega) | decide)).mono ?_
        rintro e w6 ⟨rfl, hb6⟩
        have H6 := Lib.hid (H5.out.trans (hb6.mono H5.out.size))
        clear hb6
        obtain ⟨c2, hc2⟩ : ∃ c, fitA (ByteArray.mk #[40, 63, 58] ++ p ++ ByteArray.mk #[41, 123, 49, 125]) s = c := ⟨_, rfl⟩
        obtain ⟨z2, hz2⟩ : ∃ z, fitB (ByteArray.mk #[40, 63, 58] ++ p ++ ByteArray.mk #[41, 123, 49, 125]) s = z := ⟨_, rfl⟩
        rw [hc2, hz2]
        have G2 : Hid (c2 = true → z2 = x) := Lib.hid fun h => by
          subst h
          have h1 := law_one HA.out.1 hc2
          rw [hz2, HA.out.2] at h1
          exact h1
        clear hc2 hz2
        go_wp2_with fail
        refine (fits_any (ByteArray.mk #[40, 63, 58] ++ p ++ ByteArray.mk #[41, 63]) (ByteArray.mk #[]) w6 (by first | (have := HS.out; omega) | decide)).mono ?_
        rintro e w7 ⟨rfl, hb7⟩
        have H7 := Lib.hid (H6.out.trans (hb7.mono H6.out.size))
        clear hb7
        obtain ⟨c3, hc3⟩ : ∃ c, fitA (ByteArray.mk #[40, 63, 58] ++ p ++ ByteArray.mk #[41, 63]) (ByteArray.mk #[]) = c := ⟨_, rfl⟩
        obtain ⟨z3, hz3⟩ : ∃ z, fitB (ByteArray.mk #[40, 63, 58] ++ p ++ ByteArray.mk #[41, 63]) (ByteArray.mk #[]) = z := ⟨_, rfl⟩
        rw [hc3, hz3]
        have G3 : Hid (c3 = true → z3 = true) := Lib.hid fun h => by
          subst h
          have h1 := law_maybe HA.out.1 hc3
          rw [hz3] at h1
          exact h1
        clear hc3 hz3
        clear HA HB
        have g0 := G0.out
        have g1 := G1.out
        have g2 := G2.out
        have g3 := G3.out
        clear G0 G1 G2 G3
        cases c0 <;> cases c1 <;> cases c2 <;> cases c3 <;> cases x <;> cases y <;> simp only [forall_const, Bool.or_true, Bool.or_false, Bool.true_or, Bool.false_or, true_implies, Bool.false_eq_true, false_implies] at g0 g1 g2 g3 <;> (try subst g0) <;> (try subst g1) <;> (try subst g2) <;> (try subst g3) <;>
          (go_wp2_with fail; exact bodyPost_ret (v := .bool true) (by simp [results, Try.results3, go_sem]) rfl ⟨rfl, H7.out⟩)
  · have i1 : (2000 : Int) < (s.size : Int) := by omega
    clear hs
    go_enter Try.func3, Try.ntmps3
    go_wp2_with fail
    refine (known_any w).mono ?_
    rintro e w1 ⟨rfl, hb1⟩
    have H1 := Lib.hid hb1
    clear hb1
    go_wp2_with fail
    refine (known_any w1).mono ?_
    rintro e w2 ⟨rfl, hb2⟩
    have H2 := Lib.hid (H1.out.trans (hb2.mono H1.out.size))
    clear hb2
    go_wp2_with fail
    exact bodyPost_ret (v := .bool true) (by simp [results, Try.results3, go_sem]) rfl ⟨rfl, H2.out⟩
end Go.Proofs.Ytdpakjkldkddcaa
