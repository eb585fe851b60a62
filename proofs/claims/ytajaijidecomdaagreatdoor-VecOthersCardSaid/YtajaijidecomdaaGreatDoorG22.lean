/- Numbers that the format has: what is exact; what is left by a division. No program in sight. Frexp, Ldexp on rungs; one round of a division's rest. No program in sight. -/
import Derived.Test.YtajaijidecomdaaGreatDoorG06
import Derived.Test.YtajaijidecomdaaGreatDoorFl4
namespace Go.Proofs.YtajaijidecomdaaGreatDoor.FL
open Ieee

theorem nearest_pow (neg : Bool) (q : Nat) (p : Int) : ∀ k : Nat, double.nearest neg (q * 2 ^ k) (p - k) = double.nearest neg q p
  | 0 => by simp
  | k + 1 => by
    have h := nearest_double neg (q * 2 ^ k) (p - k)
    rw [nearest_pow neg q p k] at h
    rw [← h]
    congr 1
    · rw [Nat.pow_succ]; ac_rfl
    · omega
/-- A rung's significand, and its place above the least one. -/
def sigM (r : Nat) : Nat := if r < 2 ^ 52 then r else 2 ^ 52 + r % 2 ^ 52
def sigE (r : Nat) : Nat := if r < 2 ^ 52 then 0 else r / 2 ^ 52 - 1
theorem val_sig (r : Nat) : val r = sigM r * 2 ^ sigE r := by
  unfold val sigM sigE
  split
  · simp
  · rfl
theorem sigM_lt (r : Nat) : sigM r < 2 ^ 53 := by unfold sigM; split <;> omega
theorem nearest_sig (s : Bool) (r : Nat) (h : r < infR) : double.nearest s (sigM r) ((sigE r : Int) - 1074) = double.word s r := by
  unfold Format.nearest
  rw [infR_eq] at h
  by_cases h0 : sigM r = 0
  · have hr : r = 0 := by unfold sigM at h0; split at h0 <;> omega
    subst hr
    rw [if_pos h0]
  rw [if_neg h0]
  simp only [dbl_frac, dbl_least, dbl_binade, dbl_inf, cut_even]
  by_cases hs : r < 2 ^ 52
  · have e1 : sigM r = r := by unfold sigM; rw [if_pos hs]
    have e2 : sigE r = 0 := by unfold sigE; rw [if_pos hs]
    rw [e1] at h0 ⊢
    rw [e2]
    have hl : r.log2 < 52 := (Nat.log2_lt h0).2 hs
    have hm : max (((0 : Nat) : Int) - 1074 + (r.log2 : Int) - ((52 : Nat) : Int)) (-1074) = -1074 := by omega
    rw [hm]
    simp only [show ((0 : Nat) : Int) - 1074 - -1074 = 0 by rfl, show (-1074 : Int) - (((0 : Nat) : Int) - 1074) = 0 by rfl, show (-1074 : Int) - -1074 = 0 by rfl, Int.toNat_zero, Nat.pow_zero, Nat.shiftLeft_zero, rq_one]
    congr 1
    omega
  · have e1 : sigM r = 2 ^ 52 + r % 2 ^ 52 := by unfold sigM; rw [if_neg hs]
    have e2 : sigE r = r / 2 ^ 52 - 1 := by unfold sigE; rw [if_neg hs]
    have hl : (sigM r).log2 = 52 := by
      rw [e1]
      have h1 : 52 ≤ (2 ^ 52 + r % 2 ^ 52).log2 := (Nat.le_log2 (by omega)).2 (by omega)
      have h2 : (2 ^ 52 + r % 2 ^ 52).log2 < 53 := (Nat.log2_lt (by omega)).2 (by omega)
      omega
    rw [hl]
    have hm : max ((sigE r : Int) - 1074 + ((52 : Nat) : Int) - ((52 : Nat) : Int)) (-1074) = (sigE r : Int) - 1074 := by omega
    rw [hm]
    simp only [Int.sub_self, Int.toNat_zero, Nat.pow_zero, Nat.shiftLeft_zero, rq_one]
    congr 1
    rw [e1, e2]
    have : (((r / 2 ^ 52 - 1 : Nat) : Int) - 1074 - -1074).toNat = r / 2 ^ 52 - 1 := by omega
    rw [this]
    omega
/-- A number that the format has is its own nearest one. -/
theorem nearest_val (s : Bool) (n r : Nat) (e : Int) (he : -1074 ≤ e) (h : n * 2 ^ (e + 1074).toNat = val r) (hr : r < infR) : double.nearest s n e = double.word s r := by
  rw [← nearest_sig s r hr]
  rw [val_sig] at h
  obtain ⟨t, ht⟩ : ∃ t, (e + 1074).toNat = t := ⟨_, rfl⟩
  have he2 : e = (t : Int) - 1074 := by omega
  subst he2
  rw [ht] at h
  clear ht he
  generalize sigE r = u at h ⊢
  generalize sigM r = M at h ⊢
  by_cases hu : u ≤ t
  · have hM : n * 2 ^ (t - u) = M := by
      have h1 : 2 ^ t = 2 ^ (t - u) * 2 ^ u := by rw [← Nat.pow_add]; congr 1; omega
      rw [h1, ← Nat.mul_assoc] at h
      exact Nat.eq_of_mul_eq_mul_right (Nat.pow_pos (by omega)) h
    rw [← hM, ← nearest_pow s n ((t : Int) - 1074) (t - u)]
    congr 1
    omega
  · have hM : n = M * 2 ^ (u - t) := by
      have h1 : 2 ^ u = 2 ^ (u - t) * 2 ^ t := by rw [← Nat.pow_add]; congr 1; omega
      rw [h1, ← Nat.mul_assoc] at h
      exact Nat.eq_of_mul_eq_mul_right (Nat.pow_pos (by omega)) h
    rw [hM, ← nearest_pow s M ((u : Int) - 1074) (u - t)]
    congr 1
    omega
theorem word_eq (s : Bool) (r : Nat) : double.word s r = if s then 2 ^ 63 + r else r := by unfold Format.word; rw [dbl_sign]
/-- What is less than 2 to the 53 times a power of two, the format has (but for its bound). -/
theorem rep_of : ∀ (t m : Nat), m < 2 ^ 53 → ∃ r, val r = m * 2 ^ t
  | t, m, hm => by
    by_cases h : 2 ^ 52 ≤ m
    · refine ⟨(m - 2 ^ 52) + (t + 1) * 2 ^ 52, ?_⟩
      unfold val
      rw [if_neg (by omega)]
      have e1 : (m - 2 ^ 52 + (t + 1) * 2 ^ 52) % 2 ^ 52 = m - 2 ^ 52 := by rw [Nat.add_mul_mod_self_right]; omega
      have e2 : (m - 2 ^ 52 + (t + 1) * 2 ^ 52) / 2 ^ 52 - 1 = t := by
        rw [Nat.add_mul_div_right _ _ (by decide), Nat.div_eq_of_lt (by omega)]; omega
      rw [e1, e2, Nat.add_sub_cancel' h]
    · cases t with
      | zero => exact ⟨m, by unfold val; rw [if_pos (by omega)]; simp⟩
      | succ t =>
        obtain ⟨r, hr⟩ := rep_of t (2 * m) (by omega)
        exact ⟨r, by rw [hr, Nat.pow_succ]; ac_rfl⟩
theorem val_pos {r : Nat} (h : r ≠ 0) : 0 < val r := by
  have := val_lt (r := 0) (s := r) (by omega)
  rw [val_zero] at this
  exact this
theorem le_val {r s : Nat} : val r ≤ val s ↔ r ≤ s := by
  have := val_lt_iff (r := s) (s := r)
  omega
/-- What is left by a division the format has. -/
theorem mod_rep (a b : Nat) (hb : b ≠ 0) : ∃ r, val r = val a % val b ∧ r < b := by
  have hW := val_pos hb
  have key : ∃ r, val r = val a % val b := by
    rw [val_sig a, val_sig b]
    have hM := sigM_lt a
    have hN := sigM_lt b
    have hN0 : 0 < sigM b := by
      rw [val_sig] at hW
      rcases Nat.eq_zero_or_pos (sigM b) with h | h
      · rw [h, Nat.zero_mul] at hW; omega
      · exact h
    generalize sigM a = M at *
    generalize sigM b = N at *
    generalize sigE a = u at *
    generalize sigE b = v at *
    by_cases h : v ≤ u
    · have e : M * 2 ^ u = M * 2 ^ (u - v) * 2 ^ v := by rw [Nat.mul_assoc, ← Nat.pow_add]; congr 2; omega
      rw [e, Nat.mul_mod_mul_right]
      have := Nat.mod_lt (M * 2 ^ (u - v)) hN0
      exact rep_of v _ (by omega)
    · have e : N * 2 ^ v = N * 2 ^ (v - u) * 2 ^ u := by rw [Nat.mul_assoc, ← Nat.pow_add]; congr 2; omega
      rw [e, Nat.mul_mod_mul_right]
      have := Nat.mod_le M (N * 2 ^ (v - u))
      exact rep_of u _ (by omega)
  obtain ⟨r, hr⟩ := key
  refine ⟨r, hr, val_lt_iff.1 ?_⟩
  rw [hr]
  exact Nat.mod_lt _ hW
/-- The document's rest. -/
def modR (a b : Nat) : Nat :=
  if isNaN a || isNaN b || isInf a || nought b then theNaN
  else if isInf b || nought a then a
  else roundR (neg0 a) (lineX a b % lineY a b) (min (openE a) (openE b)) false
/-- The same by rungs. -/
theorem modR_val {a b r : Nat} (ha : isNaN a = false) (hb : isNaN b = false) (ia : isInf a = false) (ib : isInf b = false) (zb : nought b = false) (za : nought a = false) (hr : val r = val (a % 2 ^ 63) % val (b % 2 ^ 63)) :
    modR a b = if neg0 a then 2 ^ 63 + r else r := by
  unfold modR
  rw [ha, hb, ia, ib, zb, za]
  simp only [Bool.or_false, Bool.false_eq_true, if_false]
  have hbf : b % 2 ^ 63 < infR := by
    have h1 : ¬ infR < b % 2 ^ 63 := by simpa [isNaN] using hb
    have h2 : ¬ b % 2 ^ 63 = infR := by simpa [isInf] using ib
    omega
  have hb0 : b % 2 ^ 63 ≠ 0 := by simpa [nought] using zb
  have hri : r < infR := by
    obtain ⟨r', h1, h2⟩ := mod_rep (a % 2 ^ 63) (b % 2 ^ 63) hb0
    have : r' = r := val_inj.1 (h1.trans hr.symm)
    omega
  rw [roundR_nearest, nearest_val (neg0 a) _ r _ (by have := openE_least (a := a); have := openE_least (a := b); omega) ?_ hri, word_eq]
  obtain ⟨h1, h2⟩ := line_pow a b
  rw [hr, ← h1, ← h2, Nat.mul_mod_mul_right]
/-- A difference of numbers with no sign that the format has. -/
theorem read_rung {r : Nat} (h : r < infR) : double.read r = .number false (openM r) (openE r) := by
  have h63 : infR < 2 ^ 63 := by decide
  have e : r % 2 ^ 63 = r := Nat.mod_eq_of_lt (by omega)
  have h1 := read_fin (a := r) (by omega) (by unfold isNaN; rw [e]; exact decide_eq_false (by omega)) (by unfold isInf; rw [e]; exact decide_eq_false (by omega))
  rw [h1]
  unfold neg0
  rw [decide_eq_false (by omega)]
theorem sub_exact {a b r : Nat} (ha : a < infR) (hb : b < infR) (hr : val r + val b = val a) : double.sub a b = some r := by
  have hri : r < infR := by
    have : r ≤ a := le_val.1 (by omega)
    omega
  unfold Format.sub
  rw [read_rung ha, read_rung hb]
  simp only [Datum.opposite, Datum.sum, Option.map_some, Bool.not_false, Bool.false_and]
  have h63 : infR < 2 ^ 63 := by decide
  have hline := line_pow a b
  rw [Nat.mod_eq_of_lt (by omega : a < 2 ^ 63), Nat.mod_eq_of_lt (by omega : b < 2 ^ 63)] at hline
  obtain ⟨h1, h2⟩ := hline
  rw [signed_abs, signed_abs]
  simp only [Bool.false_eq_true, if_false, if_true]
  unfold lineX at h1
  unfold lineY at h2
  obtain ⟨x, hx⟩ : ∃ x, openM a * 2 ^ (openE a - min (openE a) (openE b)).toNat = x := ⟨_, rfl⟩
  obtain ⟨y, hy⟩ : ∃ y, openM b * 2 ^ (openE b - min (openE a) (openE b)).toNat = y := ⟨_, rfl⟩
  rw [hx] at h1 ⊢
  rw [hy] at h2 ⊢
  obtain ⟨p, hp⟩ : ∃ p, 2 ^ (min (openE a) (openE b) + 1074).toNat = p := ⟨_, rfl⟩
  have hp0 : 0 < p := by rw [← hp]; exact Nat.pow_pos (by omega)
  rw [hp] at h1 h2
  have hyx : y ≤ x := by
    refine Nat.le_of_mul_le_mul_right ?_ hp0
    rw [h1, h2]
    omega
  have hsgn : decide ((x : Int) + -(y : Int) < 0) = false := decide_eq_false (by omega)
  have habs : ((x : Int) + -(y : Int)).natAbs = x - y := by omega
  rw [hsgn, habs]
  simp only [ite_self]
  show some (double.nearest false (x - y) (min (openE a) (openE b))) = some r
  rw [nearest_val false (x - y) r _ (by have := openE_least (a := a); have := openE_least (a := b); omega) ?_ hri, word_eq]
  · rfl
  · rw [hp, Nat.sub_mul, h1, h2]
    omega
end Go.Proofs.YtajaijidecomdaaGreatDoor.FL
namespace Go.Proofs.YtajaijidecomdaaGreatDoor.FL
open Ieee

theorem open_sig {r : Nat} (h : r < infR) : openM r = sigM r ∧ openE r = (sigE r : Int) - 1074 := by
  rw [infR_eq] at h
  unfold openM openE sigM sigE
  by_cases hs : r < 2 ^ 52
  · have e0 : r / 2 ^ 52 % 2048 = 0 := by omega
    rw [if_pos e0, if_pos e0, if_pos hs, if_pos hs]
    refine ⟨by omega, rfl⟩
  · have e0 : ¬ r / 2 ^ 52 % 2048 = 0 := by omega
    rw [if_neg e0, if_neg e0, if_neg hs, if_neg hs]
    refine ⟨rfl, by omega⟩
/-- A product of two numbers without sign. -/
theorem mul_num {a b : Nat} (ha : a < infR) (hb : b < infR) : double.mul a b = some (double.nearest false (sigM a * sigM b) ((sigE a : Int) - 1074 + ((sigE b : Int) - 1074))) := by
  unfold Format.mul
  rw [read_rung ha, read_rung hb, (open_sig ha).1, (open_sig ha).2, (open_sig hb).1, (open_sig hb).2]
  rfl
/-- A normal number of the same digits: a subnormal one 2 to the 52 times. -/
def normR (r : Nat) : Nat := if r < 2 ^ 52 then r.log2 * 2 ^ 52 + r * 2 ^ (52 - r.log2) else r
def normC (r : Nat) : Nat := if r < 2 ^ 52 then 52 else 0
theorem norm_sub {r : Nat} (h0 : r ≠ 0) (hs : r < 2 ^ 52) : 2 ^ 52 ≤ r * 2 ^ (52 - r.log2) ∧ r * 2 ^ (52 - r.log2) < 2 ^ 53 ∧ r.log2 < 52 := by
  have hl : r.log2 < 52 := (Nat.log2_lt h0).2 hs
  have h1 : 2 ^ r.log2 ≤ r := Nat.log2_self_le h0
  have h2 : r < 2 ^ (r.log2 + 1) := Nat.lt_log2_self
  have e1 : 2 ^ r.log2 * 2 ^ (52 - r.log2) = 2 ^ 52 := by rw [← Nat.pow_add]; congr 1; omega
  have e2 : 2 ^ (r.log2 + 1) * 2 ^ (52 - r.log2) = 2 ^ 53 := by rw [← Nat.pow_add]; congr 1; omega
  have h3 := Nat.mul_le_mul_right (2 ^ (52 - r.log2)) h1
  have h4 := Nat.mul_lt_mul_of_pos_right h2 (Nat.pow_pos (n := 52 - r.log2) (by omega : 0 < 2))
  rw [e1] at h3
  rw [e2] at h4
  exact ⟨h3, h4, hl⟩
theorem norm_ge {r : Nat} (h0 : r ≠ 0) : 2 ^ 52 ≤ normR r := by
  unfold normR
  split
  · rename_i hs
    have := (norm_sub h0 hs).1
    omega
  · omega
theorem norm_val {r : Nat} (h0 : r ≠ 0) : val (normR r) = val r * 2 ^ normC r := by
  unfold normR normC
  split
  · rename_i hs
    obtain ⟨h1, h2, h3⟩ := norm_sub h0 hs
    have e1 : val r = r := by unfold val; rw [if_pos hs]
    obtain ⟨m, hm⟩ : ∃ m, r * 2 ^ (52 - r.log2) = m := ⟨_, rfl⟩
    rw [hm] at h1 h2 ⊢
    have e2 : val (r.log2 * 2 ^ 52 + m) = m * 2 ^ r.log2 := by
      unfold val
      rw [if_neg (by omega)]
      have f1 : (r.log2 * 2 ^ 52 + m) % 2 ^ 52 = m - 2 ^ 52 := by omega
      have f2 : (r.log2 * 2 ^ 52 + m) / 2 ^ 52 - 1 = r.log2 := by omega
      rw [f1, f2, Nat.add_sub_cancel' h1]
    rw [e1, e2, ← hm, Nat.mul_assoc, ← Nat.pow_add]
    congr 2
    omega
  · simp
theorem norm_lt {r : Nat} (h0 : r ≠ 0) (h : r < infR) : normR r < infR := by
  rw [infR_eq] at *
  unfold normR
  split
  · rename_i hs
    obtain ⟨h1, h2, h3⟩ := norm_sub h0 hs
    omega
  · exact h
/-- The subnormal number made normal by a product. -/
theorem norm_mul {r : Nat} (h0 : r ≠ 0) (hs : r < 2 ^ 52) : double.mul r 0x4330000000000000 = some (normR r) := by
  have hri : r < infR := by rw [infR_eq]; omega
  have hi : (0x4330000000000000 : Nat) < infR := by decide
  rw [mul_num hri hi]
  have e1 : sigM 0x4330000000000000 = 2 ^ 52 := by decide
  have e2 : sigE 0x4330000000000000 = 1074 := by decide
  have e3 : sigE r = 0 := by unfold sigE; rw [if_pos hs]
  have e4 : sigM r = r := by unfold sigM; rw [if_pos hs]
  rw [e1, e2, e3, e4, nearest_val false _ (normR r) _ (by omega) ?_ (norm_lt h0 hri), word_eq]
  · rfl
  · rw [norm_val h0]
    unfold normC
    rw [if_pos hs]
    unfold val
    rw [if_pos hs]
    simp
/-- The digits of a number, and its place: Frexp. -/
def frexpM (r : Nat) : Nat := 1022 * 2 ^ 52 + normR r % 2 ^ 52
def frexpE (r : Nat) : Int := ((normR r / 2 ^ 52 : Nat) : Int) - 1022 - normC r
theorem frexp_val {r : Nat} (h0 : r ≠ 0) : ∃ X : Nat, frexpE r = (X : Int) - 1073 ∧ val r * 2 ^ 52 = (2 ^ 52 + normR r % 2 ^ 52) * 2 ^ X ∧ normR r % 2 ^ 52 < 2 ^ 52 := by
  have hv := norm_val h0
  have hg := norm_ge h0
  have h1 : val (normR r) = (2 ^ 52 + normR r % 2 ^ 52) * 2 ^ (normR r / 2 ^ 52 - 1) := by unfold val; rw [if_neg (by omega)]
  have hc : normC r ≤ 52 := by unfold normC; split <;> omega
  refine ⟨normR r / 2 ^ 52 - 1 + (52 - normC r), by unfold frexpE; omega, ?_, Nat.mod_lt _ (by decide)⟩
  rw [Nat.pow_add, ← Nat.mul_assoc, ← h1, hv, Nat.mul_assoc, ← Nat.pow_add]
  congr 2
  omega
/-- How many times 2 the divisor goes. -/
def goesK (r y : Nat) : Int := frexpE r - (if frexpM r < frexpM y then 1 else 0) - frexpE y
theorem goes {r y : Nat} (hr : r ≠ 0) (hy : y ≠ 0) (hle : y ≤ r) : ∃ k : Nat, goesK r y = k ∧ val y * 2 ^ k ≤ val r ∧ val r < 2 * (val y * 2 ^ k) := by
  obtain ⟨X, hX, hv, hm⟩ := frexp_val hr
  obtain ⟨Y, hY, hw, hn⟩ := frexp_val hy
  have hlv : val y ≤ val r := le_val.2 hle
  have hmn : frexpM r < frexpM y ↔ normR r % 2 ^ 52 < normR y % 2 ^ 52 := by unfold frexpM; omega
  unfold goesK
  rw [hX, hY]
  simp only [hmn]
  generalize normR r % 2 ^ 52 = a at *
  generalize normR y % 2 ^ 52 = b at *
  generalize val r = V at *
  generalize val y = W at *
  have hp : ∀ n : Nat, 0 < 2 ^ n := fun n => Nat.pow_pos (by omega)
  have hXY : Y ≤ X := by
    refine Nat.le_of_not_lt fun h => ?_
    have h1 : (2 ^ 52 + a) * 2 ^ X < 2 ^ 53 * 2 ^ X := Nat.mul_lt_mul_of_pos_right (by omega) (hp X)
    have h2 : 2 ^ 53 * 2 ^ X ≤ 2 ^ 52 * 2 ^ Y := by rw [← Nat.pow_add, ← Nat.pow_add]; exact Nat.pow_le_pow_right (by omega) (by omega)
    have h3 : 2 ^ 52 * 2 ^ Y ≤ (2 ^ 52 + b) * 2 ^ Y := Nat.mul_le_mul_right _ (by omega)
    rw [← hv] at h1
    rw [← hw] at h3
    have h4 := Nat.mul_le_mul_right (2 ^ 52) hlv
    omega
  by_cases hab : a < b
  · have hne : X ≠ Y := by
      rintro rfl
      have h1 : (2 ^ 52 + a) * 2 ^ X < (2 ^ 52 + b) * 2 ^ X := Nat.mul_lt_mul_of_pos_right (by omega) (hp X)
      rw [← hv, ← hw] at h1
      have h4 := Nat.mul_le_mul_right (2 ^ 52) hlv
      omega
    refine ⟨X - Y - 1, by rw [if_pos hab]; omega, ?_, ?_⟩
    · refine Nat.le_of_mul_le_mul_right (c := 2 ^ 52) ?_ (hp 52)
      have e : W * 2 ^ (X - Y - 1) * 2 ^ 52 = (2 ^ 52 + b) * 2 ^ (X - 1) := by
        rw [Nat.mul_right_comm, hw, Nat.mul_assoc, ← Nat.pow_add]; congr 2; omega
      rw [e, hv]
      have e2 : 2 ^ X = 2 * 2 ^ (X - 1) := by rw [← Nat.pow_succ']; congr 1; omega
      rw [e2, ← Nat.mul_assoc]
      exact Nat.mul_le_mul_right _ (by omega)
    · refine Nat.lt_of_mul_lt_mul_right (a := 2 ^ 52) ?_
      have e : 2 * (W * 2 ^ (X - Y - 1)) * 2 ^ 52 = (2 ^ 52 + b) * 2 ^ X := by
        have e2 : 2 ^ X = 2 * (2 ^ (X - Y - 1) * 2 ^ Y) := by rw [← Nat.pow_add, ← Nat.pow_succ']; congr 1; omega
        rw [e2]
        have : 2 * (W * 2 ^ (X - Y - 1)) * 2 ^ 52 = 2 * 2 ^ (X - Y - 1) * (W * 2 ^ 52) := by ac_rfl
        rw [this, hw]
        ac_rfl
      rw [e, hv]
      exact Nat.mul_lt_mul_of_pos_right (by omega) (hp X)
  · refine ⟨X - Y, by rw [if_neg hab]; omega, ?_, ?_⟩
    · refine Nat.le_of_mul_le_mul_right (c := 2 ^ 52) ?_ (hp 52)
      have e : W * 2 ^ (X - Y) * 2 ^ 52 = (2 ^ 52 + b) * 2 ^ X := by
        rw [Nat.mul_right_comm, hw, Nat.mul_assoc, ← Nat.pow_add]; congr 2; omega
      rw [e, hv]
      exact Nat.mul_le_mul_right _ (by omega)
    · refine Nat.lt_of_mul_lt_mul_right (a := 2 ^ 52) ?_
      have e : 2 * (W * 2 ^ (X - Y)) * 2 ^ 52 = 2 * (2 ^ 52 + b) * 2 ^ X := by
        have : 2 * (W * 2 ^ (X - Y)) * 2 ^ 52 = 2 * (2 ^ (X - Y) * (W * 2 ^ 52)) := by ac_rfl
        rw [this, hw]
        have e2 : 2 ^ X = 2 ^ (X - Y) * 2 ^ Y := by rw [← Nat.pow_add]; congr 1; omega
        rw [e2]
        ac_rfl
      rw [e, hv]
      exact Nat.mul_lt_mul_of_pos_right (by omega) (hp X)
/-- Ldexp of a number without sign: rounded. -/
def ldexpR (r : Nat) (k : Int) : Nat := double.nearest false (sigM r) ((sigE r : Int) - 1074 + k)
theorem ldexp_exact {y t : Nat} (k : Nat) (ht : val t = val y * 2 ^ k) (hti : t < infR) : ldexpR y k = t := by
  unfold ldexpR
  rw [nearest_val false _ t _ (by omega) ?_ hti, word_eq]
  · rfl
  · rw [ht, val_sig, Nat.mul_assoc, ← Nat.pow_add]
    congr 2
    omega
/-- One round. -/
theorem mod_step {r y : Nat} (hri : r < infR) (hy : y ≠ 0) (hle : y ≤ r) : ∃ (k t q : Nat), goesK r y = k ∧ ldexpR y k = t ∧ t < infR ∧ val q + val t = val r ∧ val q % val y = val r % val y ∧ q < r := by
  have hr : r ≠ 0 := by omega
  obtain ⟨k, hk, h1, h2⟩ := goes hr hy hle
  obtain ⟨t, ht⟩ : ∃ t, val t = val y * 2 ^ k := by
    obtain ⟨t, ht⟩ := rep_of (sigE y + k) (sigM y) (sigM_lt y)
    exact ⟨t, by rw [ht, Nat.pow_add, ← Nat.mul_assoc, ← val_sig]⟩
  have hti : t < infR := by
    have : t ≤ r := le_val.1 (by omega)
    omega
  obtain ⟨q, hq⟩ : ∃ q, val q = val r - val t := by
    have hlt : val r - val t < val t := by omega
    rw [val_sig r, val_sig t] at *
    have hM := sigM_lt r
    have hN := sigM_lt t
    generalize sigM r = M at *
    generalize sigM t = N at *
    generalize sigE r = u at *
    generalize sigE t = v at *
    by_cases h : v ≤ u
    · have e : M * 2 ^ u = M * 2 ^ (u - v) * 2 ^ v := by rw [Nat.mul_assoc, ← Nat.pow_add]; congr 2; omega
      rw [e, ← Nat.sub_mul] at hlt ⊢
      have := Nat.lt_of_mul_lt_mul_right hlt
      exact rep_of v _ (by omega)
    · have e : N * 2 ^ v = N * 2 ^ (v - u) * 2 ^ u := by rw [Nat.mul_assoc, ← Nat.pow_add]; congr 2; omega
      rw [e, ← Nat.sub_mul]
      exact rep_of u _ (by omega)
  have hyv := val_pos hy
  have htv : 0 < val t := by rw [ht]; exact Nat.mul_pos hyv (Nat.pow_pos (by omega))
  refine ⟨k, t, q, hk, ldexp_exact k ht hti, hti, by omega, ?_, val_lt_iff.1 (by omega)⟩
  have e : val r = val q + val y * 2 ^ k := by omega
  rw [e, Nat.add_mul_mod_self_left]
theorem mod_done {r y : Nat} (h : r < y) : val r % val y = val r := Nat.mod_eq_of_lt (val_lt h)
end Go.Proofs.YtajaijidecomdaaGreatDoor.FL
