/- Comparing numbers: by values and by bits. No program in sight. -/
import Derived.Test.YtajaijidecomdaaGreatDoorFl2
namespace Go.Proofs.YtajaijidecomdaaGreatDoor.FL
open Ieee

/-- A magnitude's value, in units of the least one. -/
def val (r : Nat) : Nat := if r < 2 ^ 52 then r else (2 ^ 52 + r % 2 ^ 52) * 2 ^ (r / 2 ^ 52 - 1)
theorem val_lt {r s : Nat} (h : r < s) : val r < val s := by
  unfold val
  by_cases hs : s < 2 ^ 52
  · rw [if_pos hs, if_pos (by omega)]; exact h
  rw [if_neg hs]
  have p1 : 1 ≤ 2 ^ (s / 2 ^ 52 - 1) := Nat.two_pow_pos _
  by_cases hr : r < 2 ^ 52
  · rw [if_pos hr]
    have : (2 ^ 52 + s % 2 ^ 52) * 1 ≤ (2 ^ 52 + s % 2 ^ 52) * 2 ^ (s / 2 ^ 52 - 1) := Nat.mul_le_mul_left _ p1
    omega
  rw [if_neg hr]
  by_cases hk : r / 2 ^ 52 = s / 2 ^ 52
  · rw [hk]
    exact (Nat.mul_lt_mul_right p1).2 (by omega)
  · have hk : r / 2 ^ 52 - 1 + 1 ≤ s / 2 ^ 52 - 1 := by omega
    have h1 : (2 ^ 52 + r % 2 ^ 52) * 2 ^ (r / 2 ^ 52 - 1) < 2 ^ 53 * 2 ^ (r / 2 ^ 52 - 1) := (Nat.mul_lt_mul_right (Nat.two_pow_pos _)).2 (by omega)
    have h2 : 2 ^ 52 * 2 ^ (s / 2 ^ 52 - 1) ≤ (2 ^ 52 + s % 2 ^ 52) * 2 ^ (s / 2 ^ 52 - 1) := Nat.mul_le_mul_right _ (by omega)
    have h3 : (2 : Nat) ^ 53 * 2 ^ (r / 2 ^ 52 - 1) ≤ 2 ^ 52 * 2 ^ (s / 2 ^ 52 - 1) := by
      rw [← Nat.pow_add, ← Nat.pow_add]; exact Nat.pow_le_pow_right (by omega) (by omega)
    omega
theorem val_lt_iff {r s : Nat} : val r < val s ↔ r < s := by
  constructor
  · intro h
    rcases Nat.lt_or_ge r s with h1 | h1
    · exact h1
    · rcases Nat.lt_or_ge s r with h2 | h2
      · have := val_lt h2; omega
      · have : r = s := by omega
        subst this; omega
  · exact val_lt
theorem val_inj {r s : Nat} : val r = val s ↔ r = s := by
  constructor
  · intro h
    rcases Nat.lt_trichotomy r s with h1 | h1 | h1
    · have := val_lt h1; omega
    · exact h1
    · have := val_lt h1; omega
  · rintro rfl; rfl
theorem openE_least {a : Nat} : -1074 ≤ openE a := by unfold openE; split <;> omega
theorem open_val {a : Nat} : openM a * 2 ^ (openE a + 1074).toNat = val (a % 2 ^ 63) := by
  unfold openM openE val
  rw [rung_div, rung_mod]
  by_cases h : a / 2 ^ 52 % 2048 = 0
  · rw [if_pos h, if_pos h, if_pos (by omega)]
    have : ((-1074 : Int) + 1074).toNat = 0 := by decide
    rw [this]; omega
  · rw [if_neg h, if_neg h, if_neg (by omega)]
    congr 2; omega
theorem line_pow (a b : Nat) : lineX a b * 2 ^ (min (openE a) (openE b) + 1074).toNat = val (a % 2 ^ 63) ∧ lineY a b * 2 ^ (min (openE a) (openE b) + 1074).toNat = val (b % 2 ^ 63) := by
  have h1 := @openE_least a
  have h2 := @openE_least b
  unfold lineX lineY
  rw [Nat.mul_assoc, Nat.mul_assoc, ← Nat.pow_add, ← Nat.pow_add, ← open_val, ← open_val]
  constructor <;> (congr 2; omega)
theorem line_lt (a b : Nat) : lineX a b < lineY a b ↔ a % 2 ^ 63 < b % 2 ^ 63 := by
  have h := line_pow a b
  rw [← @val_lt_iff (a % 2 ^ 63) (b % 2 ^ 63), ← h.1, ← h.2]
  exact (Nat.mul_lt_mul_right (Nat.two_pow_pos _)).symm
theorem line_gt (a b : Nat) : lineY a b < lineX a b ↔ b % 2 ^ 63 < a % 2 ^ 63 := by
  have h := line_pow a b
  rw [← @val_lt_iff (b % 2 ^ 63) (a % 2 ^ 63), ← h.1, ← h.2]
  exact (Nat.mul_lt_mul_right (Nat.two_pow_pos _)).symm
theorem val_zero : val 0 = 0 := rfl
theorem line_zero (a b : Nat) : (lineX a b = 0 ↔ a % 2 ^ 63 = 0) ∧ (lineY a b = 0 ↔ b % 2 ^ 63 = 0) := by
  have h := line_pow a b
  have p := Nat.two_pow_pos (min (openE a) (openE b) + 1074).toNat
  have e : ∀ x y, x * 2 ^ (min (openE a) (openE b) + 1074).toNat = val y → (x = 0 ↔ y = 0) := by
    intro x y hxy
    rw [← @val_inj y 0, val_zero, ← hxy]
    constructor
    · rintro rfl; simp
    · intro h0; rcases Nat.mul_eq_zero.1 h0 with h1 | h1
      · exact h1
      · omega
  exact ⟨e _ _ h.1, e _ _ h.2⟩

def lessR (x y : Nat) : Int := if x < y then -1 else if y < x then 1 else 0
/-- The document's comparison of two that are no NaN. -/
def cmpC (a b : Nat) : Int :=
  if nought a && nought b then 0
  else if neg0 a != neg0 b then (if neg0 a then -1 else 1)
  else
    let c := if isInf a && isInf b then 0 else if isInf a then 1 else if isInf b then -1 else lessR (lineX a b) (lineY a b)
    if neg0 a then -c else c
def cmpR (a b : Nat) : Option Int := if isNaN a || isNaN b then none else some (cmpC a b)
/-- Signed place among all. -/
def plc (a : Nat) : Int := if neg0 a then -((a % 2 ^ 63 : Nat) : Int) else ((a % 2 ^ 63 : Nat) : Int)
def cmpI (x y : Int) : Int := if x < y then -1 else if y < x then 1 else 0
theorem cmpC_plc {a b : Nat} (na : isNaN a = false) (nb : isNaN b = false) : cmpC a b = cmpI (plc a) (plc b) := by
  unfold cmpC cmpI plc
  unfold isNaN at na nb
  have na := of_decide_eq_false na
  have nb := of_decide_eq_false nb
  by_cases hz : (nought a && nought b) = true
  · rw [if_pos hz]
    unfold nought at hz
    simp only [Bool.and_eq_true, decide_eq_true_eq] at hz
    rw [hz.1, hz.2]; simp
  rw [if_neg hz]
  unfold nought at hz
  simp only [Bool.and_eq_true, decide_eq_true_eq] at hz
  have hlt := line_lt a b
  have hgt := line_gt a b
  unfold lessR isInf
  cases hna : neg0 a <;> cases hnb : neg0 b
  all_goals simp only [bne_self_eq_false, Bool.false_eq_true, if_false, if_true, Bool.bne_true, Bool.bne_false, Bool.not_false, Bool.and_eq_true, decide_eq_true_eq]
  · repeat' split
    all_goals omega
  · repeat' split
    all_goals omega
  · repeat' split
    all_goals omega
  · repeat' split
    all_goals omega
theorem order_num (s t : Bool) (m n : Nat) : (some (compare (if s then -(m : Int) else (m : Int)) (if t then -(n : Int) else (n : Int))) : Option Ordering) = some (compare (if s then -(m : Int) else (m : Int)) (if t then -(n : Int) else (n : Int))) := rfl
def ordI (x y : Int) : Ordering := if x < y then .lt else if x = y then .eq else .gt
theorem compare_ord (x y : Int) : compare x y = ordI x y := by unfold ordI; rfl
/-- The format's order is that of the places. -/
theorem order_plc {a b : Nat} (ha : a < 2 ^ 64) (hb : b < 2 ^ 64) (na : isNaN a = false) (nb : isNaN b = false) : double.order a b = some (ordI (plc a) (plc b)) := by
  unfold Format.order
  have hlt := line_lt a b
  have hgt := line_gt a b
  have hz := line_zero a b
  have qa := of_decide_eq_false na
  have qb := of_decide_eq_false nb
  by_cases ia : isInf a = true
  · rw [read_inf ha ia]
    have ia := of_decide_eq_true ia
    by_cases ib : isInf b = true
    · rw [read_inf hb ib]
      have ib := of_decide_eq_true ib
      simp only [Datum.order]
      unfold plc
      rw [ia, ib]
      cases neg0 a <;> cases neg0 b <;> decide
    · simp only [Bool.not_eq_true] at ib
      rw [read_fin hb nb ib]
      have ib := of_decide_eq_false ib
      simp only [Datum.order, Option.some.injEq]
      unfold plc ordI
      have hi : infR = 9218868437227405312 := rfl
      cases neg0 a <;> cases neg0 b <;> simp only [Bool.false_eq_true, if_false, if_true] <;> (repeat' split) <;> first | rfl | omega
  simp only [Bool.not_eq_true] at ia
  rw [read_fin ha na ia]
  have ia := of_decide_eq_false ia
  by_cases ib : isInf b = true
  · rw [read_inf hb ib]
    have ib := of_decide_eq_true ib
    simp only [Datum.order, Option.some.injEq]
    unfold plc ordI
    have hi : infR = 9218868437227405312 := rfl
    cases neg0 a <;> cases neg0 b <;> simp only [Bool.false_eq_true, if_false, if_true] <;> (repeat' split) <;> first | rfl | omega
  simp only [Bool.not_eq_true] at ib
  rw [read_fin hb nb ib]
  simp only [Datum.order, Option.some.injEq, compare_ord, signed_abs]
  have ex : openM a * 2 ^ (openE a - min (openE a) (openE b)).toNat = lineX a b := rfl
  have ey : openM b * 2 ^ (openE b - min (openE a) (openE b)).toNat = lineY a b := rfl
  rw [ex, ey]
  unfold plc ordI
  cases neg0 a <;> cases neg0 b <;> simp only [Bool.false_eq_true, if_false, if_true] <;> (repeat' split) <;> first | rfl | omega
theorem order_nan {a b : Nat} (ha : a < 2 ^ 64) (hb : b < 2 ^ 64) (h : (isNaN a || isNaN b) = true) : double.order a b = none := by
  unfold Format.order
  by_cases na : isNaN a = true
  · obtain ⟨t, e⟩ := read_nan ha na
    rw [e]; rfl
  · simp only [Bool.not_eq_true] at na
    rw [na, Bool.false_or] at h
    obtain ⟨t, e⟩ := read_nan hb h
    rw [e]
    cases double.read a <;> rfl

/-- The program's total order: NaNs first, by their bits; then the negative ones; then the others. -/
def hgh (a : Nat) : Nat := if isNaN a then 0 else if 2 ^ 63 ≤ a then 1 else 2
def low (a : Nat) : Nat := if isNaN a then a else if 2 ^ 63 ≤ a then 2 ^ 64 - 1 - a else a
def orderP (a b : Nat) : Int :=
  if hgh a < hgh b ∨ (hgh a = hgh b ∧ low a < low b) then -1
  else if hgh b < hgh a ∨ low b < low a then 1 else 0
def orderR (a b : Nat) : Int :=
  if isNaN a || isNaN b then
    (if isNaN a && !isNaN b || (isNaN a && isNaN b && decide (a < b)) then -1
     else if !isNaN a && isNaN b || decide (b < a) then 1 else 0)
  else if cmpC a b = 0 ∧ a ≠ b then (if neg0 a then -1 else 1) else cmpC a b
theorem orderR_eq {a b : Nat} (ha : a < 2 ^ 64) (hb : b < 2 ^ 64) : orderR a b = orderP a b := by
  unfold orderR orderP hgh low
  cases na : isNaN a <;> cases nb : isNaN b
  · simp only [Bool.or_false, Bool.false_eq_true, if_false]
    rw [cmpC_plc na nb]
    unfold cmpI plc neg0
    simp only [decide_eq_true_eq]
    repeat' split
    all_goals omega
  · simp
    split <;> simp
  · simp
    split <;> simp
  · simp
theorem orderP_self (a : Nat) : orderP a a = 0 := by unfold orderP; simp
theorem orderP_eq {a b : Nat} (ha : a < 2 ^ 64) (hb : b < 2 ^ 64) (h : orderP a b = 0) : a = b := by
  unfold orderP hgh low at h
  revert h
  repeat' split
  all_goals (intro h; omega)
theorem orderP_neg (a b : Nat) : orderP b a = -orderP a b := by
  unfold orderP
  repeat' split
  all_goals omega
theorem orderP_trans {a b c : Nat} (h1 : orderP a b < 0) (h2 : orderP b c < 0) : orderP a c < 0 := by
  unfold orderP at *
  revert h1 h2
  repeat' split
  all_goals omega
end Go.Proofs.YtajaijidecomdaaGreatDoor.FL
