/- Quotients, rounded. No program in sight. -/
import Derived.Test.YtajaijidecomdaaGreatDoorG06
namespace Go.Proofs.YtajaijidecomdaaGreatDoor.FL
open Ieee

theorem div_bounds (q P : Nat) (hP : 0 < P) : P * (q / P) + q % P = q ∧ q % P < P := ⟨Nat.div_add_mod q P, Nat.mod_lt _ hP⟩
/-- One digit more, which is 1 where anything is left over, tells as much as the rest itself. -/
theorem rq_sticky (A B d : Nat) (hB : 0 < B) (hd : 1 ≤ d) :
    rq (2 * (A / B) + (A % B != 0).toNat) (2 ^ (d + 1)) = rq A (B * 2 ^ d) := by
  obtain ⟨c, rfl⟩ : ∃ c, d = c + 1 := ⟨d - 1, by omega⟩
  have e1 : (2 : Nat) ^ (c + 1) = 2 * 2 ^ c := by rw [Nat.pow_succ]; omega
  have e2 : (2 : Nat) ^ (c + 1 + 1) = 2 * (2 * 2 ^ c) := by rw [Nat.pow_succ, e1]; omega
  have hp : 0 < 2 ^ c := Nat.two_pow_pos c
  rw [e1, e2]
  generalize 2 ^ c = p at hp ⊢
  have hr := Nat.mod_lt A hB
  have hA := Nat.div_add_mod A B
  generalize hq : A / B = q at *
  generalize hr' : A % B = r at *
  have hu := Nat.mod_lt q (show 0 < 2 * p by omega)
  have hqd := Nat.div_add_mod q (2 * p)
  generalize hw : q / (2 * p) = w at *
  generalize hu' : q % (2 * p) = u at *
  have f1 : A / (B * (2 * p)) = w := by rw [← Nat.div_div_eq_div_mul, hq, hw]
  have f2 : A % (B * (2 * p)) = B * u + r := by
    rw [Nat.mod_mul, hq, hr', hu']; omega
  have hs := Bool.toNat_le (r != 0)
  have f3 : (2 * q + (r != 0).toNat) / (2 * (2 * p)) = w := by
    rw [← hqd, Nat.mul_add]
    have : 2 * (2 * p * w) + 2 * u + (r != 0).toNat = (2 * u + (r != 0).toNat) + 2 * (2 * p) * w := by rw [Nat.mul_assoc 2 (2 * p) w]; omega
    rw [this, Nat.add_mul_div_left _ _ (by omega), Nat.div_eq_of_lt (by omega)]; omega
  have f4 : (2 * q + (r != 0).toNat) % (2 * (2 * p)) = 2 * u + (r != 0).toNat := by
    rw [← hqd, Nat.mul_add]
    have : 2 * (2 * p * w) + 2 * u + (r != 0).toNat = (2 * u + (r != 0).toNat) + 2 * (2 * p) * w := by rw [Nat.mul_assoc 2 (2 * p) w]; omega
    rw [this, Nat.add_mul_mod_self_left, Nat.mod_eq_of_lt (by omega)]
  unfold rq
  rw [f1, f2, f3, f4]
  congr 2
  have hBu : B * (2 * p) = 2 * (B * p) := by rw [← Nat.mul_assoc, Nat.mul_comm B 2, Nat.mul_assoc]
  rcases Nat.lt_trichotomy u p with hlt | heq | hgt
  · have h1 : B * u + B ≤ B * p := by rw [← Nat.mul_succ]; exact Nat.mul_le_mul_left _ (by omega)
    have g1 : ¬ B * (2 * p) < 2 * (B * u + r) := by omega
    have g2 : ¬ B * (2 * p) = 2 * (B * u + r) := by omega
    have g3 : ¬ 2 * (2 * p) < 2 * (2 * u + (r != 0).toNat) := by omega
    have g4 : ¬ 2 * (2 * p) = 2 * (2 * u + (r != 0).toNat) := by omega
    simp [g1, g2, g3, g4]
  · subst heq
    by_cases h0 : r = 0
    · subst h0
      have g2 : B * (2 * u) = 2 * (B * u + 0) := by omega
      simp [g2]
    · have g1 : B * (2 * u) < 2 * (B * u + r) := by omega
      have e : (r != 0) = true := by simp [h0]
      rw [e]
      have g3 : 2 * (2 * u) < 2 * (2 * u + true.toNat) := by simp
      simp only [g1, g3, decide_true, Bool.true_or]
  · have h1 : B * p + B ≤ B * u := by rw [← Nat.mul_succ]; exact Nat.mul_le_mul_left _ (by omega)
    have g1 : B * (2 * p) < 2 * (B * u + r) := by omega
    have g3 : 2 * (2 * p) < 2 * (2 * u + (r != 0).toNat) := by omega
    simp only [g1, g3, decide_true, Bool.true_or]
theorem log2_two (x : Nat) (s : Bool) (hx : x ≠ 0) : (2 * x + s.toNat).log2 = x.log2 + 1 := by
  have h1 := Nat.log2_self_le hx
  have h2 : x < 2 ^ (x.log2 + 1) := Nat.lt_log2_self
  have hs := Bool.toNat_le s
  rw [Nat.log2_eq_iff (by omega), Nat.pow_succ 2 x.log2, Nat.pow_succ 2 (x.log2 + 1)]
  rw [Nat.pow_succ] at h2 ⊢
  omega
/-- The nearest word of A by B times 2 to the p. -/
def nearQ (neg : Bool) (A B : Nat) (p : Int) : Nat :=
  double.word neg (min ((max (p + ((A / B).log2 : Int) - 52) (-1074) - (-1074)).toNat * 2 ^ 52 + rq A (B * 2 ^ (max (p + ((A / B).log2 : Int) - 52) (-1074) - p).toNat)) (2047 * 2 ^ 52))
theorem nearest_sticky (neg : Bool) (A B : Nat) (p : Int) (hB : 0 < B) (hq : 2 ^ 53 ≤ A / B) :
    double.nearest neg (2 * (A / B) + (A % B != 0).toNat) (p - 1) = nearQ neg A B p := by
  unfold Format.nearest nearQ
  have h0 : A / B ≠ 0 := by omega
  have hl : 53 ≤ (A / B).log2 := (Nat.le_log2 h0).2 hq
  rw [if_neg (by omega), log2_two _ _ h0]
  simp only [dbl_frac, dbl_least, dbl_binade, dbl_inf, cut_even]
  have e1 : p - 1 + (((A / B).log2 + 1 : Nat) : Int) - ((52 : Nat) : Int) = p + ((A / B).log2 : Int) - 52 := by omega
  rw [e1]
  generalize hm : max (p + ((A / B).log2 : Int) - 52) (-1074) = last
  have hlast : p + 1 ≤ last := by omega
  have e2 : (p - 1 - last).toNat = 0 := by omega
  have e3 : (last - (p - 1)).toNat = (last - p).toNat + 1 := by omega
  rw [e2, e3, Nat.shiftLeft_zero, rq_sticky A B _ hB (by omega)]
theorem nearQ_scale (neg : Bool) (A B k : Nat) (p : Int) (hB : 0 < B) (hq : 2 ^ 53 ≤ A / B) : nearQ neg (A * 2 ^ k) B (p - k) = nearQ neg A B p := by
  have h0 : A / B ≠ 0 := by omega
  have hl : (A * 2 ^ k / B).log2 = (A / B).log2 + k := by
    have h1 := Nat.log2_self_le h0
    have h2 : A / B < 2 ^ ((A / B).log2 + 1) := Nat.lt_log2_self
    have h3 := (Nat.le_div_iff_mul_le hB).1 h1
    have h4 := (Nat.div_lt_iff_lt_mul hB).1 h2
    have h5 : 2 ^ ((A / B).log2 + k) ≤ A * 2 ^ k / B := by
      rw [Nat.le_div_iff_mul_le hB, Nat.pow_add, Nat.mul_right_comm]
      exact Nat.mul_le_mul_right _ h3
    have h6 : A * 2 ^ k / B < 2 ^ ((A / B).log2 + k + 1) := by
      rw [Nat.div_lt_iff_lt_mul hB, Nat.add_right_comm, Nat.pow_add, Nat.mul_right_comm]
      exact (Nat.mul_lt_mul_right (Nat.two_pow_pos k)).2 h4
    rw [Nat.log2_eq_iff (by have := Nat.two_pow_pos ((A / B).log2 + k); omega)]
    exact ⟨h5, h6⟩
  unfold nearQ
  rw [hl]
  have e1 : p - (k : Int) + (((A / B).log2 + k : Nat) : Int) - 52 = p + ((A / B).log2 : Int) - 52 := by omega
  rw [e1]
  have hl53 : 53 ≤ (A / B).log2 := (Nat.le_log2 h0).2 hq
  generalize hm : max (p + ((A / B).log2 : Int) - 52) (-1074) = last
  have e2 : (last - (p - (k : Int))).toNat = (last - p).toNat + k := by omega
  rw [e2, Nat.pow_add, ← Nat.mul_assoc, rq_mul _ _ _ (Nat.two_pow_pos k)]
theorem nearest_double (neg : Bool) (q : Nat) (p : Int) : double.nearest neg (2 * q) (p - 1) = double.nearest neg q p := by
  unfold Format.nearest
  by_cases h0 : q = 0
  · subst h0; rw [Nat.mul_zero, if_pos rfl, if_pos rfl]
  rw [if_neg (by omega), if_neg h0]
  have hl := log2_two q false h0
  simp only [Bool.toNat_false, Nat.add_zero] at hl
  rw [hl]
  simp only [dbl_frac, dbl_least, dbl_binade, dbl_inf, cut_even]
  have e1 : p - 1 + ((q.log2 + 1 : Nat) : Int) - ((52 : Nat) : Int) = p + (q.log2 : Int) - ((52 : Nat) : Int) := by omega
  rw [e1]
  generalize hm : max (p + (q.log2 : Int) - ((52 : Nat) : Int)) (-1074) = last
  suffices hh : rq ((2 * q) <<< (p - 1 - last).toNat) (2 ^ (last - (p - 1)).toNat) = rq (q <<< (p - last).toNat) (2 ^ (last - p).toNat) by rw [hh]
  rw [Nat.shiftLeft_eq, Nat.shiftLeft_eq]
  by_cases h : last < p
  · have f1 : (p - last).toNat = (p - 1 - last).toNat + 1 := by omega
    have f2 : (last - p).toNat = 0 := by omega
    have f3 : (last - (p - 1)).toNat = 0 := by omega
    rw [f1, f2, f3, Nat.pow_succ]
    congr 1
    rw [Nat.mul_comm 2 q, Nat.mul_assoc, Nat.mul_comm 2]
  · have f1 : (p - last).toNat = 0 := by omega
    have f2 : (last - (p - 1)).toNat = (last - p).toNat + 1 := by omega
    have f3 : (p - 1 - last).toNat = 0 := by omega
    rw [f1, f2, f3, Nat.pow_succ, Nat.pow_zero, Nat.mul_one, Nat.mul_one, Nat.mul_comm 2 q, rq_mul _ _ _ (by omega)]
theorem bits54 {q : Nat} (h : 2 ^ 53 ≤ q) : 54 ≤ bitsN q := by
  rcases Nat.lt_or_ge 53 (bitsN q) with h1 | h1
  · exact h1
  · have := bitsN_le_iff.1 h1; omega
/-- The document's rounding of a quotient. -/
theorem roundR_quot (neg : Bool) (A B : Nat) (p : Int) (hB : 0 < B) (hq : 2 ^ 53 ≤ A / B) :
    roundR neg (A / B) p (A % B != 0) = nearQ neg A B p := by
  rw [← nearest_sticky neg A B p hB hq]
  by_cases h : A % B = 0
  · rw [h]
    simp only [bne_self_eq_false, Bool.toNat_false, Nat.add_zero]
    rw [roundR_nearest, nearest_double]
  · have e : (A % B != 0) = true := by simp [h]
    rw [e, roundR_more neg _ p (bits54 hq)]; rfl

def divR (a b : Nat) : Nat :=
  if isNaN a || isNaN b || (isInf a && isInf b) || (nought a && nought b) then theNaN
  else if isInf a || nought b then infOf (neg0 a != neg0 b)
  else if isInf b || nought a then roundR (neg0 a != neg0 b) 0 0 false
  else roundR (neg0 a != neg0 b) (openM a * 2 ^ 120 / openM b) (openE a - 120 - openE b) (openM a * 2 ^ 120 % openM b != 0)
theorem nought_iff {x : Nat} (h1 : isNaN x = false) (h2 : isInf x = false) : nought x = true ↔ openM x = 0 := by
  unfold nought openM isNaN isInf at *
  have h1 := of_decide_eq_false h1
  have h2 := of_decide_eq_false h2
  rw [infR_eq] at h1 h2
  rw [decide_eq_true_iff]
  split <;> omega
theorem nought_inf {x : Nat} (h : isInf x = true) : nought x = false := by
  unfold isInf at h; unfold nought
  have h := of_decide_eq_true h
  rw [h]; simp [infR]
theorem openM_lt (x : Nat) : openM x < 2 ^ 53 := by unfold openM; split <;> omega
theorem nearest_zero (s : Bool) (p : Int) : double.nearest s 0 p = if s then 2 ^ 63 else 0 := by
  unfold Format.nearest Format.word; rw [if_pos rfl, dbl_sign]
theorem divR_eq {a b : Nat} (ha : a < 2 ^ 64) (hb : b < 2 ^ 64) : divR a b = canon (double.div a b) := by
  unfold divR Format.div
  have hx : ∀ s t : Bool, (s ^^ t) = (s != t) := by decide
  by_cases na : isNaN a = true
  · obtain ⟨t, e⟩ := read_nan ha na
    rw [e, na]; rfl
  by_cases nb : isNaN b = true
  · obtain ⟨t, e⟩ := read_nan hb nb
    rw [e, nb]
    simp only [Bool.or_true, Bool.true_or, if_true]
    cases double.read a <;> rfl
  simp only [Bool.not_eq_true] at na nb
  rw [na, nb]
  simp only [Bool.false_or]
  by_cases ia : isInf a = true
  · rw [read_inf ha ia, ia, nought_inf ia]
    by_cases ib : isInf b = true
    · rw [read_inf hb ib, ib]; simp [Datum.quotient, canon]
    · simp only [Bool.not_eq_true] at ib
      rw [read_fin hb nb ib, ib]
      simp [Datum.quotient, canon, Format.write, infOf_word, hx]
  simp only [Bool.not_eq_true] at ia
  rw [read_fin ha na ia, ia]
  by_cases ib : isInf b = true
  · rw [read_inf hb ib, ib, nought_inf ib]
    simp [Datum.quotient, canon, Format.write, hx, roundR_zero, nearest_zero]
  simp only [Bool.not_eq_true] at ib
  rw [read_fin hb nb ib, ib]
  simp only [Datum.quotient, Bool.and_false, Bool.false_or]
  by_cases hb0 : openM b = 0
  · have zb := (nought_iff nb ib).2 hb0
    rw [zb, hb0, if_pos rfl]
    by_cases ha0 : openM a = 0
    · have za := (nought_iff na ia).2 ha0
      simp [za, ha0, canon]
    · have za : nought a = false := by rcases hq : nought a with _ | _; · rfl
                                       · exact absurd ((nought_iff na ia).1 hq) ha0
      simp [za, ha0, canon, Format.write, infOf_word, hx]
  have zb : nought b = false := by rcases hq : nought b with _ | _; · rfl
                                   · exact absurd ((nought_iff nb ib).1 hq) hb0
  rw [zb, if_neg hb0]
  simp only [Bool.and_false, Bool.false_eq_true, if_false]
  by_cases ha0 : openM a = 0
  · have za := (nought_iff na ia).2 ha0
    rw [za, ha0, roundR_zero]
    simp [canon, Format.write, hx, nearest_zero]
  have za : nought a = false := by rcases hq : nought a with _ | _; · rfl
                                   · exact absurd ((nought_iff na ia).1 hq) ha0
  rw [za]
  simp only [Bool.false_eq_true, if_false, Option.map_some, canon, Format.write, hx, dbl_frac]
  have m53 := openM_lt a
  have n53 := openM_lt b
  generalize openM a = m at *
  generalize openM b = n at *
  have hn : 0 < n := by omega
  have lm := Nat.log2_self_le ha0
  have ln : n < 2 ^ (n.log2 + 1) := Nat.lt_log2_self
  have lm' : m.log2 ≤ 52 := by have := (Nat.log2_lt ha0).2 m53; omega
  have ln' : n.log2 ≤ 52 := by have := (Nat.log2_lt hb0).2 n53; omega
  generalize hk : 52 + 2 + n.log2 - m.log2 = k
  have hD : 2 ^ 53 ≤ m <<< k / n := by
    rw [Nat.shiftLeft_eq, Nat.le_div_iff_mul_le hn]
    have h1 : 2 ^ m.log2 * 2 ^ k ≤ m * 2 ^ k := Nat.mul_le_mul_right _ lm
    have h2 : 2 ^ 53 * n ≤ 2 ^ 53 * 2 ^ (n.log2 + 1) := Nat.mul_le_mul_left _ (by omega)
    rw [← Nat.pow_add] at h1 h2
    have h3 : (2 : Nat) ^ (53 + (n.log2 + 1)) ≤ 2 ^ (m.log2 + k) := Nat.pow_le_pow_right (by omega) (by omega)
    omega
  have hk2 : k ≤ 120 := by omega
  have e1 : openE a - openE b - (k : Int) - 1 = (openE a - openE b - (k : Int)) - 1 := rfl
  rw [e1, nearest_sticky _ _ _ _ hn hD]
  rw [Nat.shiftLeft_eq] at hD ⊢
  have hs := nearQ_scale (neg0 a != neg0 b) (m * 2 ^ k) n (120 - k) (openE a - openE b - (k : Int)) hn hD
  rw [Nat.mul_assoc, ← Nat.pow_add, show k + (120 - k) = 120 by omega] at hs
  rw [← hs]
  have e2 : openE a - openE b - (k : Int) - ((120 - k : Nat) : Int) = openE a - 120 - openE b := by omega
  rw [e2]
  refine roundR_quot _ _ _ _ hn ?_
  refine Nat.le_trans hD ?_
  refine Nat.div_le_div_right (Nat.mul_le_mul_left _ (Nat.pow_le_pow_right (by omega) (by omega)))
end Go.Proofs.YtajaijidecomdaaGreatDoor.FL
