/- Numbers: their bits, comparing, the order. -/
import Derived.Test.YtajaijidecomdaaGreatDoorFl3
import Derived.Test.YtajaijidecomdaaGreatDoorG01
import Derived.Laws.Externs
import Derived.Laws.Cover2
import Derived.Laws.BitsLemmas
import Derived.LoopN
namespace Go.Proofs.YtajaijidecomdaaGreatDoor
open Go.RowKit Go.Lib


theorem wraps_u64 (n : Int) (h1 : 0 ≤ n) (h2 : n < 2 ^ 64) : IntKind.u64.wrap n = n := by simp [IntKind.wrap, IntKind.bits, IntKind.signed]; omega
theorem and_pow63 (a : Nat) : a &&& 2 ^ 63 = if a.testBit 63 then 2 ^ 63 else 0 := by
  apply Nat.eq_of_testBit_eq
  intro i
  rw [Nat.testBit_and, Nat.testBit_two_pow]
  by_cases h : 63 = i
  · subst h
    cases hb : a.testBit 63
    · simp
    · rw [if_pos rfl, Nat.testBit_two_pow]; simp
  · rw [decide_eq_false h, Bool.and_false]
    split
    · rw [Nat.testBit_two_pow, decide_eq_false h]
    · rw [Nat.zero_testBit]
theorem u64_sign (a : Nat) (ha : a < 2 ^ 64) : (bits .and .u64 (a : Int) 9223372036854775808 != 0) = decide (2 ^ 63 ≤ a) := by
  have h := (bits_nat .u64 64 (by decide) wraps_u64 a (2 ^ 63) ha (by decide)).1
  rw [and_pow63, Nat.testBit_eq_decide_div_mod_eq] at h
  have e : ((2 ^ 63 : Nat) : Int) = 9223372036854775808 := by decide
  rw [e] at h
  rw [h]
  by_cases hg : 2 ^ 63 ≤ a
  · have : a / 2 ^ 63 % 2 = 1 := by omega
    simp [this, hg]
  · have : ¬ a / 2 ^ 63 % 2 = 1 := by omega
    simp [this, hg]
theorem u64_not (a : Nat) (ha : a < 2 ^ 64) : bits .xor .u64 IntKind.u64.max (a : Int) = ((2 ^ 64 - 1 - a : Nat) : Int) := by
  have h2 : (BitVec.allOnes 64 ^^^ BitVec.ofNat 64 a).toNat = 2 ^ 64 - 1 - a := by
    rw [BitVec.allOnes_xor, BitVec.toNat_not, BitVec.toNat_ofNat, Nat.mod_eq_of_lt ha]
  show IntKind.u64.wrap (((BitVec.ofInt 64 18446744073709551615 ^^^ BitVec.ofInt 64 (a : Int)).toNat : Nat) : Int) = _
  rw [show BitVec.ofInt 64 18446744073709551615 = BitVec.allOnes 64 by decide, BitVec.ofInt_natCast, h2]
  exact wraps_u64 _ (by omega) (by omega)

theorem Tryz.run_from (a : Int) (w : World) : (callFunc 219 #[.int .u64 a]).run Tryz.prog w = .ok (.value (.float .f64 a.toNat)) w := by
  rw [run_callFunc_extern (e := Go.Extern.MathFloatBits.float64frombits) Tryz.func219 (by kernel_rfl) (by kernel_rfl) (by kernel_rfl) (by kernel_rfl)]
  rfl
theorem Tryz.run_bits (a : Nat) (w : World) : (callFunc 185 #[.float .f64 a]).run Tryz.prog w = .ok (.value (.int .u64 a)) w := by
  rw [run_callFunc_extern (e := Go.Extern.MathFloatBits.float64bits) Tryz.func185 (by kernel_rfl) (by kernel_rfl) (by kernel_rfl) (by kernel_rfl)]
  rfl
theorem of_any (a : Nat) (w : World) : Calls Tryz.prog 166 #[.int .u64 a] w fun e w' => e = .returned (.float .f64 a) ∧ w' = w := by
  have hd := fun w => Tryz.run_from (a : Int) w
  simp only [Int.toNat_natCast] at hd
  go_enter Tryz.func166, Tryz.ntmps166
  go_wp2
  go_ret
  exact ⟨rfl, rfl⟩
def cmpN (a b : Nat) : Int := if FL.isNaN a || FL.isNaN b then 0 else FL.cmpI (FL.plc a) (FL.plc b)
def cmpOk (a b : Nat) : Bool := !(FL.isNaN a || FL.isNaN b)
theorem order_cases {a b : Nat} (ha : a < 2 ^ 64) (hb : b < 2 ^ 64) :
    (FloatKind.f64.format.order a b = none ∧ cmpN a b = 0 ∧ cmpOk a b = false) ∨ (FloatKind.f64.format.order a b = some .lt ∧ cmpN a b = -1 ∧ cmpOk a b = true) ∨
    (FloatKind.f64.format.order a b = some .eq ∧ cmpN a b = 0 ∧ cmpOk a b = true) ∨ (FloatKind.f64.format.order a b = some .gt ∧ cmpN a b = 1 ∧ cmpOk a b = true) := by
  show (Ieee.double.order a b = none ∧ _) ∨ (Ieee.double.order a b = _ ∧ _) ∨ (Ieee.double.order a b = _ ∧ _) ∨ (Ieee.double.order a b = _ ∧ _)
  unfold cmpN cmpOk
  cases hn : (FL.isNaN a || FL.isNaN b) with
  | true => exact .inl ⟨FL.order_nan ha hb hn, rfl, rfl⟩
  | false =>
    obtain ⟨h1, h2⟩ := Bool.or_eq_false_iff.1 hn
    rw [FL.order_plc ha hb h1 h2]
    refine .inr ?_
    unfold FL.ordI FL.cmpI
    rcases Int.lt_trichotomy (FL.plc a) (FL.plc b) with h | h | h
    · exact .inl ⟨by rw [if_pos h], by simp [h], rfl⟩
    · exact .inr (.inl ⟨by rw [if_neg (by omega), if_pos h], by simp [h], rfl⟩)
    · exact .inr (.inr ⟨by rw [if_neg (by omega), if_neg (by omega)], by rw [if_neg (by decide), if_neg (by omega), if_pos h], rfl⟩)
set_option maxHeartbeats 1000000 in
set_option maxRecDepth 100000 in
theorem cmp_any (a b : Nat) (ha : a < 2 ^ 64) (hb : b < 2 ^ 64) (w : World) : Calls Tryz.prog 118 #[.int .u64 a, .int .u64 b] w fun e w' => e = .returned (.tuple #[.int .i64 (cmpN a b), .bool (cmpOk a b)]) ∧ w' = w := by
  have hof := fun a w => of_any a w
  rcases order_cases ha hb with ⟨ho, h1, h2⟩ | ⟨ho, h1, h2⟩ | ⟨ho, h1, h2⟩ | ⟨ho, h1, h2⟩
  all_goals
    rw [h1, h2]
    clear h1 h2
    go_enter Tryz.func118, Tryz.ntmps118
    go_wp2_with (go_at_call 166; refine (hof _ _).mono ?_; rintro e w' ⟨rfl, rfl⟩)
    exact bodyPost_ret (by simp [results, Tryz.results118, go_sem]) rfl ⟨rfl, rfl⟩
theorem isNaN_any (a : Nat) (ha : a < 2 ^ 64) (w : World) : Calls Tryz.prog 172 #[.int .u64 a] w fun e w' => e = .returned (.bool (FL.isNaN a)) ∧ w' = w := by
  have hof := fun a w => of_any a w
  have ho : (FloatKind.f64.format.order a a != some .eq) = FL.isNaN a := by
    rcases order_cases ha ha with ⟨ho, h1, h2⟩ | ⟨ho, h1, h2⟩ | ⟨ho, h1, h2⟩ | ⟨ho, h1, h2⟩
    all_goals
      unfold cmpOk cmpN FL.cmpI at *
      rw [ho]
      cases hn : FL.isNaN a <;> simp_all
  go_enter Tryz.func172, Tryz.ntmps172
  go_wp2_with (first | (go_at_call 166; refine (hof _ _).mono ?_; rintro e w' ⟨rfl, rfl⟩) | (go_at_call 222; go_enter Tryz.func222, Tryz.ntmps222))
  go_ret
  exact ⟨rfl, rfl⟩
theorem negative_any (a : Nat) (ha : a < 2 ^ 64) (w : World) : Calls Tryz.prog 179 #[.int .u64 a] w fun e w' => e = .returned (.bool (decide (2 ^ 63 ≤ a))) ∧ w' = w := by
  have hs := u64_sign a ha
  go_enter Tryz.func179, Tryz.ntmps179
  go_wp2
  go_ret
  exact ⟨rfl, rfl⟩
theorem place_any (a : Nat) (ha : a < 2 ^ 64) (w : World) : Calls Tryz.prog 218 #[.int .u64 a] w fun e w' => e = .returned (.tuple #[.int .i64 (FL.hgh a), .int .u64 (FL.low a)]) ∧ w' = w := by
  have h1 := fun w => isNaN_any a ha w
  have h2 := fun w => negative_any a ha w
  unfold FL.hgh FL.low
  cases hn : FL.isNaN a with
  | true =>
    rw [hn] at h1
    go_enter Tryz.func218, Tryz.ntmps218
    go_wp2_with (first | (go_at_call 172; refine (h1 _).mono ?_; rintro e w' ⟨rfl, rfl⟩))
    exact bodyPost_ret (by simp [results, Tryz.results218, go_sem]) rfl ⟨rfl, rfl⟩
  | false =>
    rw [hn] at h1
    by_cases hg : 2 ^ 63 ≤ a
    · rw [decide_eq_true hg] at h2
      have hx := u64_not a ha
      rw [if_pos hg, if_pos hg]
      go_enter Tryz.func218, Tryz.ntmps218
      go_wp2_with (first | (go_at_call 172; refine (h1 _).mono ?_; rintro e w' ⟨rfl, rfl⟩) | (go_at_call 179; refine (h2 _).mono ?_; rintro e w' ⟨rfl, rfl⟩))
      exact bodyPost_ret (by simp [results, Tryz.results218, go_sem]) rfl ⟨rfl, rfl⟩
    · rw [decide_eq_false hg] at h2
      rw [if_neg hg, if_neg hg]
      go_enter Tryz.func218, Tryz.ntmps218
      go_wp2_with (first | (go_at_call 172; refine (h1 _).mono ?_; rintro e w' ⟨rfl, rfl⟩) | (go_at_call 179; refine (h2 _).mono ?_; rintro e w' ⟨rfl, rfl⟩))
      exact bodyPost_ret (by simp [results, Tryz.results218, go_sem]) rfl ⟨rfl, rfl⟩
set_option maxHeartbeats 1000000 in
set_option maxRecDepth 100000 in
theorem order_any (a b : Nat) (ha : a < 2 ^ 64) (hb : b < 2 ^ 64) (w : World) : Calls Tryz.prog 165 #[.int .u64 a, .int .u64 b] w fun e w' => e = .returned (.int .i64 (FL.orderP a b)) ∧ w' = w := by
  have h1 := fun w => place_any a ha w
  have h2 := fun w => place_any b hb w
  unfold FL.orderP
  generalize FL.hgh a = p at h1 ⊢
  generalize FL.hgh b = q at h2 ⊢
  generalize FL.low a = x at h1 ⊢
  generalize FL.low b = y at h2 ⊢
  by_cases c1 : p < q
  · have d1 : (p : Int) < (q : Int) := by omega
    rw [if_pos (.inl c1)]
    go_enter Tryz.func165, Tryz.ntmps165
    go_wp2_with fail
    refine (h1 _).mono ?_
    rintro e w' ⟨rfl, rfl⟩
    go_wp2_with fail
    refine (h2 _).mono ?_
    rintro e w' ⟨rfl, rfl⟩
    go_wp2
    go_ret
    exact ⟨rfl, rfl⟩
  · have d1 : ¬ (p : Int) < (q : Int) := by omega
    by_cases c2 : q < p
    · have d2 : (q : Int) < (p : Int) := by omega
      have d3 : ¬ (p : Int) = (q : Int) := by omega
      have d4 : ((p : Int) == (q : Int)) = false := beq_eq_false_iff_ne.2 d3
      rw [if_neg (by rintro (h | h) <;> omega), if_pos (.inl c2)]
      go_enter Tryz.func165, Tryz.ntmps165
      go_wp2_with fail
      refine (h1 _).mono ?_
      rintro e w' ⟨rfl, rfl⟩
      go_wp2_with fail
      refine (h2 _).mono ?_
      rintro e w' ⟨rfl, rfl⟩
      go_wp2
      go_ret
      exact ⟨rfl, rfl⟩
    · obtain rfl : p = q := by omega
      by_cases c3 : x < y
      · have d3 : (x : Int) < (y : Int) := by omega
        rw [if_pos (.inr ⟨rfl, c3⟩)]
        go_enter Tryz.func165, Tryz.ntmps165
        go_wp2_with fail
        refine (h1 _).mono ?_
        rintro e w' ⟨rfl, rfl⟩
        go_wp2_with fail
        refine (h2 _).mono ?_
        rintro e w' ⟨rfl, rfl⟩
        go_wp2
        go_ret
        exact ⟨rfl, rfl⟩
      · have d3 : ¬ (x : Int) < (y : Int) := by omega
        rw [if_neg (by rintro (h | h) <;> omega)]
        by_cases c4 : y < x
        · have d4 : (y : Int) < (x : Int) := by omega
          rw [if_pos (.inr c4)]
          go_enter Tryz.func165, Tryz.ntmps165
          go_wp2_with fail
          refine (h1 _).mono ?_
          rintro e w' ⟨rfl, rfl⟩
          go_wp2_with fail
          refine (h2 _).mono ?_
          rintro e w' ⟨rfl, rfl⟩
          go_wp2
          go_ret
          exact ⟨rfl, rfl⟩
        · have d4 : ¬ (y : Int) < (x : Int) := by omega
          rw [if_neg (by rintro (h | h) <;> omega)]
          go_enter Tryz.func165, Tryz.ntmps165
          go_wp2_with fail
          refine (h1 _).mono ?_
          rintro e w' ⟨rfl, rfl⟩
          go_wp2_with fail
          refine (h2 _).mono ?_
          rintro e w' ⟨rfl, rfl⟩
          go_wp2
          go_ret
          exact ⟨rfl, rfl⟩
end Go.Proofs.YtajaijidecomdaaGreatDoor
