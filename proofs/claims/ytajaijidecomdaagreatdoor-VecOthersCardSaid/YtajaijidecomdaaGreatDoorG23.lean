/- Whole parts: Trunc, Floor, Whole, Int. No program in sight. The operations at words of 64 bits; Exp, Ln, Pow, Atan2 by their steps. No program in sight. -/
import Derived.Test.YtajaijidecomdaaGreatDoorG22
namespace Go.Proofs.YtajaijidecomdaaGreatDoor.FL
open Ieee

/-- The whole part of a finite number without its sign, and whether something is left. -/
def wholeN (a : Nat) : Nat := if 0 ≤ openE a then openM a * 2 ^ (openE a).toNat else openM a / 2 ^ (-openE a).toNat
def wholeL (a : Nat) : Bool := if 0 ≤ openE a then false else openM a % 2 ^ (-openE a).toNat != 0
/-- The whole part, and one more if up and something is left. -/
def stepR (a : Nat) (up : Bool) : Nat := if isNaN a then theNaN else if isInf a then a else roundR (neg0 a) (wholeN a + (wholeL a && up).toNat) 0 false
def floorR (a : Nat) : Nat := stepR a (neg0 a)
def ceilR (a : Nat) : Nat := stepR a (!neg0 a)
def truncR (a : Nat) : Nat := stepR a false
theorem cut_drop (n d : Nat) (hd : n.log2 + 2 ≤ d) : n / 2 ^ d = n / 2 ^ (n.log2 + 2) ∧ n % 2 ^ d = n % 2 ^ (n.log2 + 2) := by
  have h : n < 2 ^ (n.log2 + 1) := Nat.lt_log2_self
  have h1 : 2 ^ (n.log2 + 1) ≤ 2 ^ (n.log2 + 2) := Nat.pow_le_pow_right (by omega) (by omega)
  have h2 : 2 ^ (n.log2 + 1) ≤ 2 ^ d := Nat.pow_le_pow_right (by omega) (by omega)
  rw [Nat.div_eq_of_lt (by omega), Nat.div_eq_of_lt (by omega), Nat.mod_eq_of_lt (by omega), Nat.mod_eq_of_lt (by omega)]
  exact ⟨rfl, rfl⟩
theorem cut_parts (n d : Nat) : n / 1 <<< min d (n.log2 + 2) = n / 2 ^ d ∧ n % 1 <<< min d (n.log2 + 2) = n % 2 ^ d := by
  rw [Nat.one_shiftLeft]
  rcases Nat.le_total d (n.log2 + 2) with h | h
  · rw [Nat.min_eq_left h]; exact ⟨rfl, rfl⟩
  · rw [Nat.min_eq_right h]
    have := cut_drop n d h
    exact ⟨this.1.symm, this.2.symm⟩
theorem cut_zero (s : Bool) (n d : Nat) : Toward.zero.cut s n d = n / 2 ^ d := by
  unfold Toward.cut
  simp only [(cut_parts n d).1, Bool.toNat_false, Nat.add_zero]
theorem cut_down (s : Bool) (n d : Nat) : Toward.down.cut s n d = n / 2 ^ d + (s && n % 2 ^ d != 0).toNat := by
  unfold Toward.cut
  simp only [(cut_parts n d).1, (cut_parts n d).2]
theorem cut_up (s : Bool) (n d : Nat) : Toward.up.cut s n d = n / 2 ^ d + (!s && n % 2 ^ d != 0).toNat := by
  unfold Toward.cut
  simp only [(cut_parts n d).1, (cut_parts n d).2]
theorem whole_cut (a : Nat) : (openM a <<< (openE a).toNat) / 2 ^ (-openE a).toNat = wholeN a ∧ ((openM a <<< (openE a).toNat) % 2 ^ (-openE a).toNat != 0) = wholeL a := by
  unfold wholeN wholeL
  rw [Nat.shiftLeft_eq]
  by_cases h : 0 ≤ openE a
  · have e : (-openE a).toNat = 0 := by omega
    rw [if_pos h, if_pos h, e, Nat.pow_zero, Nat.div_one, Nat.mod_one]
    exact ⟨rfl, rfl⟩
  · have e : (openE a).toNat = 0 := by omega
    rw [if_neg h, if_neg h, e, Nat.pow_zero, Nat.mul_one]
    exact ⟨rfl, rfl⟩
/-- The model's Trunc, Floor, Ceil at a number that is no NaN. -/
theorem integral_step {a : Nat} (ha : a < 2 ^ 64) (hn : isNaN a = false) : double.write ((double.read a).integral .zero) = truncR a ∧ double.write ((double.read a).integral .down) = floorR a ∧ double.write ((double.read a).integral .up) = ceilR a := by
  unfold truncR floorR ceilR stepR
  rw [hn]
  by_cases hi : isInf a = true
  · rw [read_inf ha hi, hi]
    simp only [Bool.false_eq_true, if_false, if_true, Datum.integral, Format.write]
    exact ⟨inf_word a ha hi, inf_word a ha hi, inf_word a ha hi⟩
  simp only [Bool.not_eq_true] at hi
  rw [read_fin ha hn hi, hi]
  simp only [Bool.false_eq_true, if_false, Datum.integral, Format.write, cut_zero, cut_down, cut_up, (whole_cut a).1, (whole_cut a).2, roundR_nearest, Bool.and_false, Bool.toNat_false, Nat.add_zero, true_and]
  exact ⟨by rw [Bool.and_comm], by rw [Bool.and_comm]⟩
/-- A whole number, rounded. -/
def intR (n : Int) : Nat := roundR (decide (n < 0)) n.natAbs 0 false
theorem intR_model (n : Int) : double.write (.number (n < 0) n.natAbs 0) = intR n := by
  unfold intR
  rw [roundR_nearest]; rfl
/-- A number as a whole one of 64 bits, if it is. -/
def wholeR (a : Nat) : Option Int :=
  if isNaN a || isInf a then none
  else if wholeL a || decide (64 < bitsN (wholeN a)) then none
  else if neg0 a then (if 2 ^ 63 < wholeN a then none else some (-(wholeN a : Int)))
  else if 2 ^ 63 ≤ wholeN a then none else some (wholeN a : Int)
/-- The place of the unit above the least one. -/
def unitK : Nat := 1074
/-- The whole part's value. -/
theorem whole_val (a : Nat) : (wholeL a = false → wholeN a * 2 ^ unitK = val (a % 2 ^ 63)) ∧ (wholeL a = true → wholeN a * 2 ^ unitK < val (a % 2 ^ 63) ∧ val (a % 2 ^ 63) < (wholeN a + 1) * 2 ^ unitK ∧ wholeN a < 2 ^ 53) := by
  have hv := open_val (a := a)
  have he := openE_least (a := a)
  have hm := openM_lt a
  rw [← hv]
  unfold wholeL wholeN
  by_cases h : 0 ≤ openE a
  · rw [if_pos h, if_pos h]
    refine ⟨fun _ => ?_, fun h => by cases h⟩
    have e : (openE a).toNat + unitK = (openE a + 1074).toNat := by unfold unitK; omega
    rw [Nat.mul_assoc, ← Nat.pow_add, e]
  · rw [if_neg h, if_neg h]
    have e0 : (-openE a).toNat + (openE a + 1074).toNat = unitK := by unfold unitK; omega
    have e : 2 ^ unitK = 2 ^ (-openE a).toNat * 2 ^ (openE a + 1074).toNat := by rw [← Nat.pow_add, e0]
    rw [e]
    generalize (-openE a).toNat = d
    generalize (openE a + 1074).toNat = t
    generalize openM a = m at *
    have hdm := Nat.div_add_mod m (2 ^ d)
    have hlt := Nat.mod_lt m (Nat.pow_pos (n := d) (by omega : 0 < 2))
    have hpt : 0 < 2 ^ t := Nat.pow_pos (by omega)
    rw [← Nat.mul_assoc, ← Nat.mul_assoc]
    have e2 : m / 2 ^ d * 2 ^ d = m - m % 2 ^ d := by rw [Nat.mul_comm]; omega
    have hle : m % 2 ^ d ≤ m := Nat.mod_le _ _
    refine ⟨fun h0 => ?_, fun h0 => ⟨?_, ?_, ?_⟩⟩
    · have h0 : m % 2 ^ d = 0 := by simpa using h0
      rw [e2, h0, Nat.sub_zero]
    · have h0 : m % 2 ^ d ≠ 0 := by simpa using h0
      rw [e2]
      exact Nat.mul_lt_mul_of_pos_right (by omega) hpt
    · refine Nat.mul_lt_mul_of_pos_right ?_ hpt
      rw [Nat.add_mul, e2, Nat.one_mul]
      omega
    · exact Nat.lt_of_le_of_lt (Nat.div_le_self _ _) hm
/-- Trunc of a finite number: that number itself, or one with another value. -/
theorem trunc_fin {a : Nat} (ha : a < 2 ^ 64) (hn : isNaN a = false) (hi : isInf a = false) : ∃ r, truncR a = (if neg0 a then 2 ^ 63 + r else r) ∧ val r = wholeN a * 2 ^ unitK ∧ r ≤ a % 2 ^ 63 ∧ (r = a % 2 ^ 63 ↔ wholeL a = false) ∧ truncR a < 2 ^ 64 ∧ (wholeL a = false → truncR a = a) := by
  have hfin : a % 2 ^ 63 < infR := by
    have h1 : ¬ infR < a % 2 ^ 63 := by simpa [isNaN] using hn
    have h2 : ¬ a % 2 ^ 63 = infR := by simpa [isInf] using hi
    omega
  have h63 : infR < 2 ^ 63 := by decide
  obtain ⟨r, hr, hle, hiff⟩ : ∃ r, val r = wholeN a * 2 ^ unitK ∧ r ≤ a % 2 ^ 63 ∧ (r = a % 2 ^ 63 ↔ wholeL a = false) := by
    cases hl : wholeL a with
    | false => exact ⟨a % 2 ^ 63, ((whole_val a).1 hl).symm, Nat.le_refl _, by simp⟩
    | true =>
      obtain ⟨h1, _, h3⟩ := (whole_val a).2 hl
      obtain ⟨r, hr⟩ := rep_of unitK (wholeN a) h3
      rw [← hr] at h1
      have := val_lt_iff.1 h1
      refine ⟨r, hr, by omega, ?_⟩
      constructor
      · intro h; omega
      · intro h; cases h
  have ht : truncR a = if neg0 a then 2 ^ 63 + r else r := by
    unfold truncR stepR
    rw [hn, hi]
    simp only [Bool.false_eq_true, if_false, Bool.and_false, Bool.toNat_false, Nat.add_zero]
    rw [roundR_nearest, nearest_val _ _ r _ (by omega) (by rw [hr, show ((0 : Int) + 1074).toNat = unitK from rfl]) (by omega), word_eq]
  refine ⟨r, ht, hr, hle, hiff, ?_, fun hl => ?_⟩
  · rw [ht]; split <;> omega
  · rw [ht, hiff.2 hl]
    unfold neg0
    by_cases h : 2 ^ 63 ≤ a
    · rw [if_pos (by simpa using h)]; omega
    · rw [if_neg (by simpa using h)]; omega
end Go.Proofs.YtajaijidecomdaaGreatDoor.FL
namespace Go.Proofs.YtajaijidecomdaaGreatDoor.FL
open Ieee

theorem nearest_lt (s : Bool) (m : Nat) (p : Int) : double.nearest s m p < 2 ^ 64 := by
  unfold Format.nearest Format.word
  rw [dbl_sign, dbl_inf]
  have h : 2047 * 2 ^ 52 < 2 ^ 63 := by decide
  split
  · split <;> omega
  · split
    · exact Nat.lt_of_le_of_lt (Nat.add_le_add_left (Nat.min_le_right _ _) _) (by omega)
    · exact Nat.lt_of_le_of_lt (Nat.min_le_right _ _) (by omega)
theorem roundR_lt (s : Bool) (m : Nat) (p : Int) : roundR s m p false < 2 ^ 64 := by rw [roundR_nearest]; exact nearest_lt s m p
theorem theNaN_lt : theNaN < 2 ^ 64 := by decide
theorem infOf_lt (s : Bool) : infOf s < 2 ^ 64 := by cases s <;> decide
theorem addR_lt {a b : Nat} (ha : a < 2 ^ 64) (hb : b < 2 ^ 64) : addR a b < 2 ^ 64 := by
  unfold addR
  repeat' split
  all_goals first | exact theNaN_lt | exact ha | exact hb | exact roundR_lt _ _ _ | decide
theorem negR_lt {a : Nat} (ha : a < 2 ^ 64) : negR a < 2 ^ 64 := by
  unfold negR
  repeat' split
  · exact theNaN_lt
  · omega
  · omega
theorem subR_lt {a b : Nat} (ha : a < 2 ^ 64) (hb : b < 2 ^ 64) : subR a b < 2 ^ 64 := addR_lt ha (negR_lt hb)
theorem mulR_lt (a b : Nat) : mulR a b < 2 ^ 64 := by
  unfold mulR
  repeat' split
  all_goals first | exact theNaN_lt | exact infOf_lt _ | exact roundR_lt _ _ _
theorem modR_lt {a b : Nat} (ha : a < 2 ^ 64) : modR a b < 2 ^ 64 := by
  unfold modR
  repeat' split
  all_goals first | exact theNaN_lt | exact ha | exact roundR_lt _ _ _
theorem stepR_lt {a : Nat} (ha : a < 2 ^ 64) (u : Bool) : stepR a u < 2 ^ 64 := by
  unfold stepR
  repeat' split
  all_goals first | exact theNaN_lt | exact ha | exact roundR_lt _ _ _
theorem canon_lt {o : Option Nat} (h : ∀ r, o = some r → r < 2 ^ 64) : canon o < 2 ^ 64 := by
  cases o with
  | none => exact theNaN_lt
  | some r => exact h r rfl
theorem write_lt (d : Datum) (h : ∀ s t, d ≠ .nan s t) : double.write d < 2 ^ 64 := by
  cases d with
  | number s m e => exact nearest_lt s m e
  | infinity s => show double.word s double.infRung < 2 ^ 64; rw [infOf_word]; exact infOf_lt s
  | nan s t => exact absurd rfl (h s t)
theorem div_lt (a b r : Nat) (h : double.div a b = some r) : r < 2 ^ 64 := by
  unfold Format.div at h
  cases hq : (double.read a).quotient (double.fractionBits + 2) (double.read b) with
  | none => rw [hq] at h; cases h
  | some d =>
    rw [hq] at h
    injection h with h
    subst h
    refine write_lt d fun s t hd => ?_
    subst hd
    unfold Datum.quotient at hq
    split at hq <;> (try split at hq) <;> (try split at hq) <;> simp at hq
theorem divR_lt {a b : Nat} (ha : a < 2 ^ 64) (hb : b < 2 ^ 64) : divR a b < 2 ^ 64 := by
  rw [divR_eq ha hb]
  exact canon_lt fun r h => div_lt a b r h
/-- The operations. -/
def absR (a : Nat) : Nat := if isNaN a then theNaN else a % 2 ^ 63
def addU (a b : UInt64) : UInt64 := UInt64.ofNat (addR a.toNat b.toNat)
def subU (a b : UInt64) : UInt64 := UInt64.ofNat (subR a.toNat b.toNat)
def mulW (a b : UInt64) : UInt64 := UInt64.ofNat (mulR a.toNat b.toNat)
def divU (a b : UInt64) : UInt64 := UInt64.ofNat (divR a.toNat b.toNat)
def modU (a b : UInt64) : UInt64 := UInt64.ofNat (modR a.toNat b.toNat)
def negU (a : UInt64) : UInt64 := UInt64.ofNat (negR a.toNat)
def absU (a : UInt64) : UInt64 := UInt64.ofNat (absR a.toNat)
def floorU (a : UInt64) : UInt64 := UInt64.ofNat (floorR a.toNat)
def truncU (a : UInt64) : UInt64 := UInt64.ofNat (truncR a.toNat)
def intU (n : Int) : UInt64 := UInt64.ofNat (intR n)
theorem ofNat_nat {n : Nat} (h : n < 2 ^ 64) : (UInt64.ofNat n).toNat = n := by
  rw [UInt64.toNat_ofNat']; exact Nat.mod_eq_of_lt h
theorem addU_nat (a b : UInt64) : (addU a b).toNat = addR a.toNat b.toNat := ofNat_nat (addR_lt a.toNat_lt b.toNat_lt)
theorem subU_nat (a b : UInt64) : (subU a b).toNat = subR a.toNat b.toNat := ofNat_nat (subR_lt a.toNat_lt b.toNat_lt)
theorem mulW_nat (a b : UInt64) : (mulW a b).toNat = mulR a.toNat b.toNat := ofNat_nat (mulR_lt _ _)
theorem divU_nat (a b : UInt64) : (divU a b).toNat = divR a.toNat b.toNat := ofNat_nat (divR_lt a.toNat_lt b.toNat_lt)
theorem modU_nat (a b : UInt64) : (modU a b).toNat = modR a.toNat b.toNat := ofNat_nat (modR_lt a.toNat_lt)
theorem negU_nat (a : UInt64) : (negU a).toNat = negR a.toNat := ofNat_nat (negR_lt a.toNat_lt)
theorem absU_nat (a : UInt64) : (absU a).toNat = absR a.toNat := ofNat_nat (by unfold absR; split; exact theNaN_lt; omega)
theorem floorU_nat (a : UInt64) : (floorU a).toNat = floorR a.toNat := ofNat_nat (stepR_lt a.toNat_lt _)
theorem truncU_nat (a : UInt64) : (truncU a).toNat = truncR a.toNat := ofNat_nat (stepR_lt a.toNat_lt _)
theorem intU_nat (n : Int) : (intU n).toNat = intR n := ofNat_nat (roundR_lt _ _ _)
/-- Is a above b? -/
def gtB (a b : UInt64) : Bool := !(isNaN a.toNat || isNaN b.toNat) && decide (plc b.toNat < plc a.toNat)
/-- 2 to the k. -/
def powerU (k : Int) : UInt64 := UInt64.ofNat (roundR false 1 k false)
theorem powerU_nat (k : Int) : (powerU k).toNat = roundR false 1 k false := ofNat_nat (roundR_lt _ _ _)
def nanU : UInt64 := 0x7ff8000000000001
def infU : UInt64 := 0x7ff0000000000000
def negInfU : UInt64 := 0xfff0000000000000
def oneW : UInt64 := 0x3ff0000000000000
def twoW : UInt64 := 0x4000000000000000
def halfW : UInt64 := 0x3fe0000000000000
def invLn2W : UInt64 := 0x3ff71547652b82fe
def ln2HiW : UInt64 := 0x3fe62e42fee00000
def ln2LoW : UInt64 := 0x3dea39ef35793c76
def expMostW : UInt64 := 0x40862e42fefa39ef
def expLeastW : UInt64 := 0xc0874910d52d3052
def piW : UInt64 := 0x400921fb54442d18
def halfPiW : UInt64 := 0x3ff921fb54442d18
def quartPiW : UInt64 := 0x3fe921fb54442d18
def rootHalfW : UInt64 := 0x3fe6a09e667f3bcd
def eighthW : UInt64 := 0x3fda827999fcef32
/-- One step of Exp's row, and the row from i down to 1. -/
def expRow (r : UInt64) : Nat → UInt64 → UInt64
  | 0, p => p
  | i + 1, p => expRow r i (addU oneW (divU (mulW r p) (intU (i + 1 : Nat))))
def expK (a : UInt64) : UInt64 := floorU (addU (mulW a invLn2W) halfW)
def expRest (a : UInt64) : UInt64 := subU (subU a (mulW (expK a) ln2HiW)) (mulW (expK a) ln2LoW)
def expU (a : UInt64) : UInt64 :=
  if isNaN a.toNat then nanU else if gtB a expMostW then infU else if gtB expLeastW a then 0 else
  mulW (mulW (expRow (expRest a) 13 oneW) (powerU (((wholeR (expK a).toNat).getD 0).tdiv 2))) (powerU ((wholeR (expK a).toNat).getD 0 - ((wholeR (expK a).toNat).getD 0).tdiv 2))
/-- The digits of a number, between a half and one, and its place. -/
def fracU (a : UInt64) : UInt64 := UInt64.ofNat (roundR false (openM a.toNat) (-(bitsN (openM a.toNat) : Int)) false)
def placeI (a : UInt64) : Int := openE a.toNat + bitsN (openM a.toNat)
theorem fracU_nat (a : UInt64) : (fracU a).toNat = roundR false (openM a.toNat) (-(bitsN (openM a.toNat) : Int)) false := ofNat_nat (roundR_lt _ _ _)
/-- Odd i from 2 i + 1 down. -/
def lnRow (s : UInt64) : Nat → UInt64 → UInt64
  | 0, p => p
  | i + 1, p => lnRow s i (addU (divU oneW (intU (2 * i + 1 : Nat))) (mulW s p))
def lnOf (m : UInt64) (e : Int) : UInt64 :=
  let f := divU (subU m oneW) (addU m oneW)
  let s := mulW f f
  let p := lnRow s 11 (divU oneW (intU 23))
  let x := intU e
  addU (mulW x ln2HiW) (addU (mulW (mulW twoW f) p) (mulW x ln2LoW))
def lnU (a : UInt64) : UInt64 :=
  if isNaN a.toNat then nanU else if nought a.toNat then negInfU else if neg0 a.toNat then nanU else if isInf a.toNat then a else
  if gtB rootHalfW (fracU a) then lnOf (mulW twoW (fracU a)) (placeI a - 1) else lnOf (fracU a) (placeI a)
def isWholeB (a : UInt64) : Bool := !isInf a.toNat && truncU a == a
/-- To a whole power: the bits of n, the lowest first. -/
def timesGo : Nat → Nat → UInt64 → UInt64 → UInt64
  | 0, _, r, _ => r
  | f + 1, n, r, x => if n = 0 then r else timesGo f (n / 2) (if n % 2 = 1 then mulW r x else r) (mulW x x)
def timesU (a b : UInt64) : UInt64 :=
  let r := timesGo 64 ((wholeR (absU b).toNat).getD 0).toNat oneW a
  if neg0 b.toNat then divU oneW r else r
def farU (a b : UInt64) : UInt64 :=
  if (!(isNaN (absU a).toNat)) && decide (plc (absU a).toNat = plc oneW.toNat) then oneW
  else if gtB (absU a) oneW != neg0 b.toNat then infU else 0
def powU (a b : UInt64) : UInt64 :=
  if nought b.toNat || a == oneW then oneW
  else if isNaN a.toNat || isNaN b.toNat then nanU
  else if isInf b.toNat || (isWholeB b && gtB (absU b) (powerU 53)) then farU a b
  else if isWholeB b then timesU a b
  else if nought a.toNat || isInf a.toNat then (if nought a.toNat != neg0 b.toNat then 0 else infU)
  else if neg0 a.toNat then nanU
  else expU (mulW b (lnU a))
def oddRow (s : UInt64) : Nat → UInt64 → UInt64
  | 0, p => p
  | i + 1, p => oddRow s i (subU (divU oneW (intU (2 * i + 1 : Nat))) (mulW s p))
def oddU (z : UInt64) : UInt64 := mulW z (oddRow (mulW z z) 23 (divU oneW (intU 47)))
def leastU (y : UInt64) : UInt64 := if gtB y eighthW then addU quartPiW (oddU (divU (subU y oneW) (addU y oneW))) else oddU y
def signedU (x a : UInt64) : UInt64 := if neg0 a.toNat then negU x else x
def atanU (a : UInt64) : UInt64 :=
  if isNaN a.toNat then nanU
  else if gtB (absU a) oneW then signedU (subU halfPiW (leastU (divU oneW (absU a)))) a
  else signedU (leastU (absU a)) a
def atan2U (a b : UInt64) : UInt64 :=
  if isNaN a.toNat || isNaN b.toNat then nanU
  else if gtB b 0 then atanU (divU a b)
  else if gtB 0 b then (if neg0 a.toNat then subU (atanU (divU a b)) piW else addU (atanU (divU a b)) piW)
  else if !nought a.toNat then signedU halfPiW a
  else if neg0 b.toNat then signedU piW a
  else a
end Go.Proofs.YtajaijidecomdaaGreatDoor.FL
