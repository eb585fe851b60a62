/- The document's operations of numbers, by whole numbers and rounding, are those of the format. No program in sight. Comparing numbers: by values and by bits. No program in sight. -/
import Derived.Test.YtajaijidecomdaaGreatDoorG05
namespace Go.Proofs.YtajaijidecomdaaGreatDoor.FL
open Ieee

def theNaN : Nat := 0x7ff8000000000001
def infR : Nat := 0x7ff0000000000000
def isNaN (a : Nat) : Bool := decide (infR < a % 2 ^ 63)
def isInf (a : Nat) : Bool := decide (a % 2 ^ 63 = infR)
def nought (a : Nat) : Bool := decide (a % 2 ^ 63 = 0)
def neg0 (a : Nat) : Bool := decide (2 ^ 63 ≤ a)
/-- Of a finite number: its value is m times 2 to the e. -/
def openM (a : Nat) : Nat := if a / 2 ^ 52 % 2048 = 0 then a % 2 ^ 52 else 2 ^ 52 + a % 2 ^ 52
def openE (a : Nat) : Int := if a / 2 ^ 52 % 2048 = 0 then -1074 else ((a / 2 ^ 52 % 2048 : Nat) : Int) - 1075
theorem infR_eq : infR = 2047 * 2 ^ 52 := by decide

theorem neg_bit {a : Nat} (h : a < 2 ^ 64) : (a / 2 ^ 63 % 2 == 1) = neg0 a := by
  unfold neg0
  by_cases hn : 2 ^ 63 ≤ a
  · have : a / 2 ^ 63 = 1 := by omega
    simp [this, hn]
  · have : a / 2 ^ 63 = 0 := by omega
    simp [this, hn]
theorem rung_div (a : Nat) : a % 2 ^ 63 / 2 ^ 52 = a / 2 ^ 52 % 2048 := by omega
theorem rung_mod (a : Nat) : a % 2 ^ 63 % 2 ^ 52 = a % 2 ^ 52 := by omega
theorem read_nan {a : Nat} (h : a < 2 ^ 64) (hn : isNaN a = true) : ∃ t, double.read a = .nan (neg0 a) t := by
  unfold isNaN at hn
  have hn := of_decide_eq_true hn
  rw [infR_eq] at hn
  unfold Format.read
  simp only [dbl_sign, dbl_binade, dbl_inf, neg_bit h]
  rw [if_neg (by omega), if_neg (by omega), if_neg (by omega)]
  exact ⟨_, rfl⟩
theorem read_inf {a : Nat} (h : a < 2 ^ 64) (hn : isInf a = true) : double.read a = .infinity (neg0 a) := by
  unfold isInf at hn
  have hn := of_decide_eq_true hn
  rw [infR_eq] at hn
  unfold Format.read
  simp only [dbl_sign, dbl_binade, dbl_inf, neg_bit h]
  rw [if_neg (by omega), if_neg (by omega), if_pos hn]
theorem read_fin {a : Nat} (h : a < 2 ^ 64) (h1 : isNaN a = false) (h2 : isInf a = false) : double.read a = .number (neg0 a) (openM a) (openE a) := by
  unfold isNaN at h1
  unfold isInf at h2
  have h1 := of_decide_eq_false h1
  have h2 := of_decide_eq_false h2
  rw [infR_eq] at h1 h2
  unfold Format.read openM openE
  simp only [dbl_sign, dbl_binade, dbl_inf, dbl_least, neg_bit h, rung_div, rung_mod]
  by_cases hs : a % 2 ^ 63 < 2 ^ 52
  · have e0 : a / 2 ^ 52 % 2048 = 0 := by omega
    have e1 : a % 2 ^ 63 = a % 2 ^ 52 := by omega
    rw [if_pos hs, if_pos e0, if_pos e0, e1]
  · have e0 : ¬ a / 2 ^ 52 % 2048 = 0 := by omega
    rw [if_neg hs, if_pos (by omega), if_neg e0, if_neg e0]
    congr 1
    omega

/-- What comes out of an operation; none: the one NaN. -/
def canon : Option Nat → Nat
  | some r => r
  | none => theNaN
def infOf (neg : Bool) : Nat := if neg then 2 ^ 63 + infR else infR
def negR (a : Nat) : Nat := if isNaN a then theNaN else if 2 ^ 63 ≤ a then a - 2 ^ 63 else a + 2 ^ 63
/-- Two finite numbers as whole ones of one power of two. -/
def lineX (a b : Nat) : Nat := openM a * 2 ^ (openE a - min (openE a) (openE b)).toNat
def lineY (a b : Nat) : Nat := openM b * 2 ^ (openE b - min (openE a) (openE b)).toNat
def addR (a b : Nat) : Nat :=
  if isNaN a || isNaN b || (isInf a && isInf b && a != b) then theNaN
  else if isInf a then a
  else if isInf b then b
  else if neg0 a = neg0 b then roundR (neg0 a) (lineX a b + lineY a b) (min (openE a) (openE b)) false
  else if lineX a b = lineY a b then 0
  else if lineY a b < lineX a b then roundR (neg0 a) (lineX a b - lineY a b) (min (openE a) (openE b)) false
  else roundR (neg0 b) (lineY a b - lineX a b) (min (openE a) (openE b)) false
def subR (a b : Nat) : Nat := addR a (negR b)
def mulR (a b : Nat) : Nat :=
  if isNaN a || isNaN b || (isInf a && nought b) || (isInf b && nought a) then theNaN
  else if isInf a || isInf b then infOf (neg0 a != neg0 b)
  else roundR (neg0 a != neg0 b) (openM a * openM b) (openE a + openE b) false

theorem inf_word (a : Nat) (h : a < 2 ^ 64) (hi : isInf a = true) : double.word (neg0 a) double.infRung = a := by
  unfold isInf at hi
  have hi := of_decide_eq_true hi
  unfold Format.word neg0
  rw [dbl_sign, dbl_inf]
  rw [infR_eq] at hi
  by_cases hn : 2 ^ 63 ≤ a <;> simp only [hn, decide_true, decide_false, if_true, Bool.false_eq_true, if_false] <;> omega
theorem infOf_word (s : Bool) : double.word s double.infRung = infOf s := by
  unfold Format.word infOf; rw [dbl_sign, dbl_inf, infR_eq]
theorem inf_nan {a : Nat} (h : isInf a = true) : isNaN a = false := by
  unfold isInf at h; unfold isNaN
  have h := of_decide_eq_true h
  rw [h]; simp
theorem eq_of_inf {a b : Nat} (ha : a < 2 ^ 64) (hb : b < 2 ^ 64) (h1 : isInf a = true) (h2 : isInf b = true) : a = b ↔ neg0 a = neg0 b := by
  unfold isInf at h1 h2
  have h1 := of_decide_eq_true h1
  have h2 := of_decide_eq_true h2
  unfold neg0
  rw [decide_eq_decide]
  constructor
  · rintro rfl; exact Iff.rfl
  · intro h
    by_cases hn : 2 ^ 63 ≤ a
    · have := h.1 hn; omega
    · have : ¬ 2 ^ 63 ≤ b := fun hb => hn (h.2 hb)
      omega
theorem signed_abs (s : Bool) (m u : Nat) : signed s m u = if s then -((m * 2 ^ u : Nat) : Int) else ((m * 2 ^ u : Nat) : Int) := by
  unfold signed; rw [Nat.shiftLeft_eq]
theorem roundR_zero (s : Bool) (e : Int) : roundR s 0 e false = if s then 2 ^ 63 else 0 := by unfold roundR; rw [if_pos rfl]
theorem addR_eq {a b : Nat} (ha : a < 2 ^ 64) (hb : b < 2 ^ 64) : addR a b = canon (double.add a b) := by
  unfold addR Format.add
  by_cases na : isNaN a = true
  · obtain ⟨t, e⟩ := read_nan ha na
    rw [e, na]; rfl
  by_cases nb : isNaN b = true
  · obtain ⟨t, e⟩ := read_nan hb nb
    rw [e, nb]
    simp only [Bool.or_true, Bool.true_or, if_true]
    cases double.read a <;> rfl
  simp only [Bool.not_eq_true] at na nb
  rw [na, nb]
  simp only [Bool.false_or]
  by_cases ia : isInf a = true
  · rw [read_inf ha ia, ia]
    by_cases ib : isInf b = true
    · rw [read_inf hb ib, ib]
      by_cases hab : a = b
      · subst hab
        simp only [Datum.sum, bne_self_eq_false, Bool.and_false, Bool.false_eq_true, if_false, if_true, Option.map_some, canon, Format.write]
        exact (inf_word a ha ia).symm
      · have : ¬ neg0 a = neg0 b := fun h => hab ((eq_of_inf ha hb ia ib).2 h)
        have hne : (a != b) = true := by simp [hab]
        simp [Datum.sum, hne, this, canon]
    · simp only [Bool.not_eq_true] at ib
      rw [read_fin hb nb ib, ib]
      simp only [Datum.sum, Bool.and_false, Bool.false_and, Bool.false_eq_true, if_false, if_true, Option.map_some, canon, Format.write]
      exact (inf_word a ha ia).symm
  simp only [Bool.not_eq_true] at ia
  rw [read_fin ha na ia, ia]
  by_cases ib : isInf b = true
  · rw [read_inf hb ib, ib]
    simp only [Datum.sum, Bool.false_and, Bool.false_eq_true, if_false, if_true, Option.map_some, canon, Format.write]
    exact (inf_word b hb ib).symm
  simp only [Bool.not_eq_true] at ib
  rw [read_fin hb nb ib, ib]
  simp only [Bool.false_and, Bool.false_eq_true, if_false, Datum.sum, Option.map_some, canon, Format.write, signed_abs, roundR_nearest]
  have ex : openM a * 2 ^ (openE a - min (openE a) (openE b)).toNat = lineX a b := rfl
  have ey : openM b * 2 ^ (openE b - min (openE a) (openE b)).toNat = lineY a b := rfl
  rw [ex, ey]
  generalize lineX a b = x
  generalize lineY a b = y
  generalize min (openE a) (openE b) = e
  cases hna : neg0 a <;> cases hnb : neg0 b
  · have h1 : ((x : Int) + (y : Int)).natAbs = x + y := by omega
    have h2 : ¬ (x : Int) + (y : Int) < 0 := by omega
    simp [h1, h2]
  · by_cases hxy : x = y
    · subst hxy
      have : ((x : Int) + -(x : Int)) = 0 := by omega
      simp [Format.nearest, Format.word, this]
    · have h3 : ¬ (x : Int) + -(y : Int) = 0 := by omega
      by_cases hlt : y < x
      · have h1 : ((x : Int) + -(y : Int)).natAbs = x - y := by omega
        have h2 : ¬ (x : Int) + -(y : Int) < 0 := by omega
        simp [hxy, hlt, h1, h2, h3]
      · have h1 : ((x : Int) + -(y : Int)).natAbs = y - x := by omega
        have h2 : (x : Int) + -(y : Int) < 0 := by omega
        simp [hxy, hlt, h1, h2, h3]
  · by_cases hxy : x = y
    · subst hxy
      have : (-(x : Int) + (x : Int)) = 0 := by omega
      simp [Format.nearest, Format.word, this]
    · have h3 : ¬ -(x : Int) + (y : Int) = 0 := by omega
      by_cases hlt : y < x
      · have h1 : (-(x : Int) + (y : Int)).natAbs = x - y := by omega
        have h2 : -(x : Int) + (y : Int) < 0 := by omega
        simp [hxy, hlt, h1, h2, h3]
      · have h1 : (-(x : Int) + (y : Int)).natAbs = y - x := by omega
        have h2 : ¬ -(x : Int) + (y : Int) < 0 := by omega
        simp [hxy, hlt, h1, h2, h3]
  · have h1 : (-(x : Int) + -(y : Int)).natAbs = x + y := by omega
    by_cases h0 : -(x : Int) + -(y : Int) = 0
    · have e1 : x = 0 := by omega
      have e2 : y = 0 := by omega
      subst e1; subst e2
      simp
    · have h2 : -(x : Int) + -(y : Int) < 0 := by omega
      simp [h1, h2]
theorem mulR_eq {a b : Nat} (ha : a < 2 ^ 64) (hb : b < 2 ^ 64) : mulR a b = canon (double.mul a b) := by
  unfold mulR Format.mul
  by_cases na : isNaN a = true
  · obtain ⟨t, e⟩ := read_nan ha na
    rw [e, na]; rfl
  by_cases nb : isNaN b = true
  · obtain ⟨t, e⟩ := read_nan hb nb
    rw [e, nb]
    simp only [Bool.or_true, Bool.true_or, if_true]
    cases double.read a <;> rfl
  simp only [Bool.not_eq_true] at na nb
  rw [na, nb]
  simp only [Bool.false_or]
  have hz : ∀ x, x < 2 ^ 64 → isNaN x = false → isInf x = false → (nought x = true ↔ openM x = 0) := by
    intro x hx h1 h2
    unfold nought openM isNaN isInf at *
    have h1 := of_decide_eq_false h1
    have h2 := of_decide_eq_false h2
    rw [infR_eq] at h1 h2
    rw [decide_eq_true_iff]
    split <;> omega
  have hzi : ∀ x, isInf x = true → nought x = false := by
    intro x h
    unfold isInf at h; unfold nought
    have h := of_decide_eq_true h
    rw [h]; simp [infR]
  have hx : ∀ s t : Bool, (s ^^ t) = (s != t) := by decide
  by_cases ia : isInf a = true
  · rw [read_inf ha ia, ia, hzi a ia]
    by_cases ib : isInf b = true
    · rw [read_inf hb ib, ib, hzi b ib]
      simp [Datum.product, canon, Format.write, infOf_word, hx]
    · simp only [Bool.not_eq_true] at ib
      rw [read_fin hb nb ib, ib]
      by_cases h0 : openM b = 0
      · have := (hz b hb nb ib).2 h0
        simp [Datum.product, canon, h0, this]
      · have : nought b = false := by rcases hq : nought b with _ | _; · rfl
                                      · exact absurd ((hz b hb nb ib).1 hq) h0
        simp [Datum.product, canon, Format.write, infOf_word, hx, h0, this]
  simp only [Bool.not_eq_true] at ia
  rw [read_fin ha na ia, ia]
  by_cases ib : isInf b = true
  · rw [read_inf hb ib, ib]
    by_cases h0 : openM a = 0
    · have := (hz a ha na ia).2 h0
      simp [Datum.product, canon, h0, this]
    · have : nought a = false := by rcases hq : nought a with _ | _; · rfl
                                    · exact absurd ((hz a ha na ia).1 hq) h0
      have hc : (neg0 b != neg0 a) = (neg0 a != neg0 b) := by cases neg0 a <;> cases neg0 b <;> rfl
      simp [Datum.product, canon, Format.write, infOf_word, hx, h0, this, hc]
  simp only [Bool.not_eq_true] at ib
  rw [read_fin hb nb ib, ib]
  simp [Datum.product, canon, Format.write, roundR_nearest, hx]
end Go.Proofs.YtajaijidecomdaaGreatDoor.FL
namespace Go.Proofs.YtajaijidecomdaaGreatDoor.FL
open Ieee

/-- A magnitude's value, in units of the least one. -/
def val (r : Nat) : Nat := if r < 2 ^ 52 then r else (2 ^ 52 + r % 2 ^ 52) * 2 ^ (r / 2 ^ 52 - 1)
theorem val_lt {r s : Nat} (h : r < s) : val r < val s := by
  unfold val
  by_cases hs : s < 2 ^ 52
  · rw [if_pos hs, if_pos (by omega)]; exact h
  rw [if_neg hs]
  have p1 : 1 ≤ 2 ^ (s / 2 ^ 52 - 1) := Nat.two_pow_pos _
  by_cases hr : r < 2 ^ 52
  · rw [if_pos hr]
    have : (2 ^ 52 + s % 2 ^ 52) * 1 ≤ (2 ^ 52 + s % 2 ^ 52) * 2 ^ (s / 2 ^ 52 - 1) := Nat.mul_le_mul_left _ p1
    omega
  rw [if_neg hr]
  by_cases hk : r / 2 ^ 52 = s / 2 ^ 52
  · rw [hk]
    exact (Nat.mul_lt_mul_right p1).2 (by omega)
  · have hk : r / 2 ^ 52 - 1 + 1 ≤ s / 2 ^ 52 - 1 := by omega
    have h1 : (2 ^ 52 + r % 2 ^ 52) * 2 ^ (r / 2 ^ 52 - 1) < 2 ^ 53 * 2 ^ (r / 2 ^ 52 - 1) := (Nat.mul_lt_mul_right (Nat.two_pow_pos _)).2 (by omega)
    have h2 : 2 ^ 52 * 2 ^ (s / 2 ^ 52 - 1) ≤ (2 ^ 52 + s % 2 ^ 52) * 2 ^ (s / 2 ^ 52 - 1) := Nat.mul_le_mul_right _ (by omega)
    have h3 : (2 : Nat) ^ 53 * 2 ^ (r / 2 ^ 52 - 1) ≤ 2 ^ 52 * 2 ^ (s / 2 ^ 52 - 1) := by
      rw [← Nat.pow_add, ← Nat.pow_add]; exact Nat.pow_le_pow_right (by omega) (by omega)
    omega
theorem val_lt_iff {r s : Nat} : val r < val s ↔ r < s := by
  constructor
  · intro h
    rcases Nat.lt_or_ge r s with h1 | h1
    · exact h1
    · rcases Nat.lt_or_ge s r with h2 | h2
      · have := val_lt h2; omega
      · have : r = s := by omega
        subst this; omega
  · exact val_lt
theorem val_inj {r s : Nat} : val r = val s ↔ r = s := by
  constructor
  · intro h
    rcases Nat.lt_trichotomy r s with h1 | h1 | h1
    · have := val_lt h1; omega
    · exact h1
    · have := val_lt h1; omega
  · rintro rfl; rfl
theorem openE_least {a : Nat} : -1074 ≤ openE a := by unfold openE; split <;> omega
theorem open_val {a : Nat} : openM a * 2 ^ (openE a + 1074).toNat = val (a % 2 ^ 63) := by
  unfold openM openE val
  rw [rung_div, rung_mod]
  by_cases h : a / 2 ^ 52 % 2048 = 0
  · rw [if_pos h, if_pos h, if_pos (by omega)]
    have : ((-1074 : Int) + 1074).toNat = 0 := by decide
    rw [this]; omega
  · rw [if_neg h, if_neg h, if_neg (by omega)]
    congr 2; omega
theorem line_pow (a b : Nat) : lineX a b * 2 ^ (min (openE a) (openE b) + 1074).toNat = val (a % 2 ^ 63) ∧ lineY a b * 2 ^ (min (openE a) (openE b) + 1074).toNat = val (b % 2 ^ 63) := by
  have h1 := @openE_least a
  have h2 := @openE_least b
  unfold lineX lineY
  rw [Nat.mul_assoc, Nat.mul_assoc, ← Nat.pow_add, ← Nat.pow_add, ← open_val, ← open_val]
  constructor <;> (congr 2; omega)
theorem line_lt (a b : Nat) : lineX a b < lineY a b ↔ a % 2 ^ 63 < b % 2 ^ 63 := by
  have h := line_pow a b
  rw [← @val_lt_iff (a % 2 ^ 63) (b % 2 ^ 63), ← h.1, ← h.2]
  exact (Nat.mul_lt_mul_right (Nat.two_pow_pos _)).symm
theorem line_gt (a b : Nat) : lineY a b < lineX a b ↔ b % 2 ^ 63 < a % 2 ^ 63 := by
  have h := line_pow a b
  rw [← @val_lt_iff (b % 2 ^ 63) (a % 2 ^ 63), ← h.1, ← h.2]
  exact (Nat.mul_lt_mul_right (Nat.two_pow_pos _)).symm
theorem val_zero : val 0 = 0 := rfl
theorem line_zero (a b : Nat) : (lineX a b = 0 ↔ a % 2 ^ 63 = 0) ∧ (lineY a b = 0 ↔ b % 2 ^ 63 = 0) := by
  have h := line_pow a b
  have p := Nat.two_pow_pos (min (openE a) (openE b) + 1074).toNat
  have e : ∀ x y, x * 2 ^ (min (openE a) (openE b) + 1074).toNat = val y → (x = 0 ↔ y = 0) := by
    intro x y hxy
    rw [← @val_inj y 0, val_zero, ← hxy]
    constructor
    · rintro rfl; simp
    · intro h0; rcases Nat.mul_eq_zero.1 h0 with h1 | h1
      · exact h1
      · omega
  exact ⟨e _ _ h.1, e _ _ h.2⟩

def lessR (x y : Nat) : Int := if x < y then -1 else if y < x then 1 else 0
/-- The document's comparison of two that are no NaN. -/
def cmpC (a b : Nat) : Int :=
  if nought a && nought b then 0
  else if neg0 a != neg0 b then (if neg0 a then -1 else 1)
  else
    let c := if isInf a && isInf b then 0 else if isInf a then 1 else if isInf b then -1 else lessR (lineX a b) (lineY a b)
    if neg0 a then -c else c
def cmpR (a b : Nat) : Option Int := if isNaN a || isNaN b then none else some (cmpC a b)
/-- Signed place among all. -/
def plc (a : Nat) : Int := if neg0 a then -((a % 2 ^ 63 : Nat) : Int) else ((a % 2 ^ 63 : Nat) : Int)
def cmpI (x y : Int) : Int := if x < y then -1 else if y < x then 1 else 0
theorem cmpC_plc {a b : Nat} (na : isNaN a = false) (nb : isNaN b = false) : cmpC a b = cmpI (plc a) (plc b) := by
  unfold cmpC cmpI plc
  unfold isNaN at na nb
  have na := of_decide_eq_false na
  have nb := of_decide_eq_false nb
  by_cases hz : (nought a && nought b) = true
  · rw [if_pos hz]
    unfold nought at hz
    simp only [Bool.and_eq_true, decide_eq_true_eq] at hz
    rw [hz.1, hz.2]; simp
  rw [if_neg hz]
  unfold nought at hz
  simp only [Bool.and_eq_true, decide_eq_true_eq] at hz
  have hlt := line_lt a b
  have hgt := line_gt a b
  unfold lessR isInf
  cases hna : neg0 a <;> cases hnb : neg0 b
  all_goals simp only [bne_self_eq_false, Bool.false_eq_true, if_false, if_true, Bool.bne_true, Bool.bne_false, Bool.not_false, Bool.and_eq_true, decide_eq_true_eq]
  · repeat' split
    all_goals omega
  · repeat' split
    all_goals omega
  · repeat' split
    all_goals omega
  · repeat' split
    all_goals omega
theorem order_num (s t : Bool) (m n : Nat) : (some (compare (if s then -(m : Int) else (m : Int)) (if t then -(n : Int) else (n : Int))) : Option Ordering) = some (compare (if s then -(m : Int) else (m : Int)) (if t then -(n : Int) else (n : Int))) := rfl
def ordI (x y : Int) : Ordering := if x < y then .lt else if x = y then .eq else .gt
theorem compare_ord (x y : Int) : compare x y = ordI x y := by unfold ordI; rfl
/-- The format's order is that of the places. -/
theorem order_plc {a b : Nat} (ha : a < 2 ^ 64) (hb : b < 2 ^ 64) (na : isNaN a = false) (nb : isNaN b = false) : double.order a b = some (ordI (plc a) (plc b)) := by
  unfold Format.order
  have hlt := line_lt a b
  have hgt := line_gt a b
  have hz := line_zero a b
  have qa := of_decide_eq_false na
  have qb := of_decide_eq_false nb
  by_cases ia : isInf a = true
  · rw [read_inf ha ia]
    have ia := of_decide_eq_true ia
    by_cases ib : isInf b = true
    · rw [read_inf hb ib]
      have ib := of_decide_eq_true ib
      simp only [Datum.order]
      unfold plc
      rw [ia, ib]
      cases neg0 a <;> cases neg0 b <;> decide
    · simp only [Bool.not_eq_true] at ib
      rw [read_fin hb nb ib]
      have ib := of_decide_eq_false ib
      simp only [Datum.order, Option.some.injEq]
      unfold plc ordI
      have hi : infR = 9218868437227405312 := rfl
      cases neg0 a <;> cases neg0 b <;> simp only [Bool.false_eq_true, if_false, if_true] <;> (repeat' split) <;> first | rfl | omega
  simp only [Bool.not_eq_true] at ia
  rw [read_fin ha na ia]
  have ia := of_decide_eq_false ia
  by_cases ib : isInf b = true
  · rw [read_inf hb ib]
    have ib := of_decide_eq_true ib
    simp only [Datum.order, Option.some.injEq]
    unfold plc ordI
    have hi : infR = 9218868437227405312 := rfl
    cases neg0 a <;> cases neg0 b <;> simp only [Bool.false_eq_true, if_false, if_true] <;> (repeat' split) <;> first | rfl | omega
  simp only [Bool.not_eq_true] at ib
  rw [read_fin hb nb ib]
  simp only [Datum.order, Option.some.injEq, compare_ord, signed_abs]
  have ex : openM a * 2 ^ (openE a - min (openE a) (openE b)).toNat = lineX a b := rfl
  have ey : openM b * 2 ^ (openE b - min (openE a) (openE b)).toNat = lineY a b := rfl
  rw [ex, ey]
  unfold plc ordI
  cases neg0 a <;> cases neg0 b <;> simp only [Bool.false_eq_true, if_false, if_true] <;> (repeat' split) <;> first | rfl | omega
theorem order_nan {a b : Nat} (ha : a < 2 ^ 64) (hb : b < 2 ^ 64) (h : (isNaN a || isNaN b) = true) : double.order a b = none := by
  unfold Format.order
  by_cases na : isNaN a = true
  · obtain ⟨t, e⟩ := read_nan ha na
    rw [e]; rfl
  · simp only [Bool.not_eq_true] at na
    rw [na, Bool.false_or] at h
    obtain ⟨t, e⟩ := read_nan hb h
    rw [e]
    cases double.read a <;> rfl

/-- The program's total order: NaNs first, by their bits; then the negative ones; then the others. -/
def hgh (a : Nat) : Nat := if isNaN a then 0 else if 2 ^ 63 ≤ a then 1 else 2
def low (a : Nat) : Nat := if isNaN a then a else if 2 ^ 63 ≤ a then 2 ^ 64 - 1 - a else a
def orderP (a b : Nat) : Int :=
  if hgh a < hgh b ∨ (hgh a = hgh b ∧ low a < low b) then -1
  else if hgh b < hgh a ∨ low b < low a then 1 else 0
def orderR (a b : Nat) : Int :=
  if isNaN a || isNaN b then
    (if isNaN a && !isNaN b || (isNaN a && isNaN b && decide (a < b)) then -1
     else if !isNaN a && isNaN b || decide (b < a) then 1 else 0)
  else if cmpC a b = 0 ∧ a ≠ b then (if neg0 a then -1 else 1) else cmpC a b
theorem orderR_eq {a b : Nat} (ha : a < 2 ^ 64) (hb : b < 2 ^ 64) : orderR a b = orderP a b := by
  unfold orderR orderP hgh low
  cases na : isNaN a <;> cases nb : isNaN b
  · simp only [Bool.or_false, Bool.false_eq_true, if_false]
    rw [cmpC_plc na nb]
    unfold cmpI plc neg0
    simp only [decide_eq_true_eq]
    repeat' split
    all_goals omega
  · simp
    split <;> simp
  · simp
    split <;> simp
  · simp
theorem orderP_self (a : Nat) : orderP a a = 0 := by unfold orderP; simp
theorem orderP_eq {a b : Nat} (ha : a < 2 ^ 64) (hb : b < 2 ^ 64) (h : orderP a b = 0) : a = b := by
  unfold orderP hgh low at h
  revert h
  repeat' split
  all_goals (intro h; omega)
theorem orderP_neg (a b : Nat) : orderP b a = -orderP a b := by
  unfold orderP
  repeat' split
  all_goals omega
theorem orderP_trans {a b c : Nat} (h1 : orderP a b < 0) (h2 : orderP b c < 0) : orderP a c < 0 := by
  unfold orderP at *
  revert h1 h2
  repeat' split
  all_goals omega
end Go.Proofs.YtajaijidecomdaaGreatDoor.FL
