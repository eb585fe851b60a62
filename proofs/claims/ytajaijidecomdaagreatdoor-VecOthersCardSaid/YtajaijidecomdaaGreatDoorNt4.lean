/- Whole numbers as words of 32 bits: products, by powers of two, bits, quotients. No program in sight. -/
import Derived.Test.YtajaijidecomdaaGreatDoorG25
namespace Go.Proofs.YtajaijidecomdaaGreatDoor.FL

theorem natOf_set : ∀ (l : List Nat) (j o x : Nat), l[j]? = some o → natOf (l.set j x) + 2 ^ (32 * j) * o = natOf l + 2 ^ (32 * j) * x
  | [], _, _, _, h => by simp at h
  | d :: l, 0, o, x, h => by
    have : d = o := by simpa using h
    subst this
    simp [natOf]
    omega
  | d :: l, j + 1, o, x, h => by
    have ih := natOf_set l j o x (by simpa using h)
    rw [List.set_cons_succ, natOf, natOf, pow_next, Nat.mul_comm (2 ^ (32 * j)), Nat.mul_assoc, Nat.mul_assoc]
    omega
theorem words_set {l : List Nat} {j x : Nat} (h : Words l) (hx : x < 2 ^ 32) : Words (l.set j x) := fun d hd => by
  rcases List.mem_or_eq_of_mem_set hd with h1 | h1
  · exact h d h1
  · rw [h1]; exact hx
theorem words_zeros (k : Nat) : Words (List.replicate k 0) := fun d hd => by rw [(List.mem_replicate.1 hd).2]; decide
/-- The product behind i whole rows: N's first i words times M. -/
def TimesOut (N M i : Nat) (out : List Nat) : Prop :=
  out.length = (digs N).length + (digs M).length ∧ Words out ∧ natOf out = N % 2 ^ (32 * i) * M ∧ ∀ j, i + (digs M).length ≤ j → j < out.length → out[j]? = some 0
theorem TimesOut.start (N M : Nat) : TimesOut N M 0 (List.replicate ((digs N).length + (digs M).length) 0) := by
  refine ⟨by simp, words_zeros _, by rw [natOf_zeros]; simp [Nat.mod_one], fun j _ hj => ?_⟩
  rw [List.getElem?_replicate]
  rw [List.length_replicate] at hj
  simp [hj]
/-- Within row i, behind k words. -/
def TimesIn (N M i k : Nat) (out : List Nat) (c : Nat) : Prop :=
  out.length = (digs N).length + (digs M).length ∧ Words out ∧ c < 2 ^ 32 ∧ natOf out + 2 ^ (32 * (i + k)) * c = N % 2 ^ (32 * i) * M + 2 ^ (32 * i) * (dig N i * (M % 2 ^ (32 * k))) ∧ ∀ j, i + (digs M).length ≤ j → j < out.length → out[j]? = some 0
theorem TimesOut.enter {N M i : Nat} {out : List Nat} (h : TimesOut N M i out) : TimesIn N M i 0 out 0 := by
  obtain ⟨h1, h2, h3, h4⟩ := h
  refine ⟨h1, h2, by decide, ?_, h4⟩
  rw [h3, Nat.mul_zero 32, Nat.pow_zero, Nat.mod_one, Nat.mul_zero, Nat.mul_zero, Nat.mul_zero]
theorem times_fits {c o d e : Nat} (h1 : c < 2 ^ 32) (h2 : o < 2 ^ 32) (h3 : d < 2 ^ 32) (h4 : e < 2 ^ 32) : c + o + d * e < 2 ^ 64 := by
  have h5 : d * e ≤ (2 ^ 32 - 1) * (2 ^ 32 - 1) := Nat.mul_le_mul (by omega) (by omega)
  have h6 : (2 ^ 32 - 1) * (2 ^ 32 - 1) = 18446744065119617025 := by decide
  omega
theorem spread (P Q d r e : Nat) : P * (d * (r + Q * e)) = P * (d * r) + P * Q * (d * e) := by
  rw [Nat.mul_add, Nat.mul_add]
  congr 1
  ac_rfl
theorem times_arith {a b c d e f g x u v : Nat} (h4 : a + b = c + d) (hs : x + e = a + f) (ha : a + f + g = a + u) (ht : u = b + e + v) : x + g = c + (d + v) := by omega
theorem TimesIn.step {N M i k c o : Nat} {out : List Nat} (h : TimesIn N M i k out c) (hk : k < (digs M).length) (ho : out[i + k]? = some o) :
    TimesIn N M i (k + 1) (out.set (i + k) ((c + o + dig N i * dig M k) % 2 ^ 32)) ((c + o + dig N i * dig M k) / 2 ^ 32) := by
  obtain ⟨h1, h2, h3, h4, h5⟩ := h
  have ho32 : o < 2 ^ 32 := h2 o (List.mem_of_getElem? ho)
  have hf := times_fits h3 ho32 (dig_lt N i) (dig_lt M k)
  refine ⟨by rw [List.length_set]; exact h1, words_set h2 (Nat.mod_lt _ (by decide)), by omega, ?_, fun j hj hjl => ?_⟩
  · have hs := natOf_set out (i + k) o ((c + o + dig N i * dig M k) % 2 ^ 32) ho
    obtain ⟨t, ht⟩ : ∃ t, c + o + dig N i * dig M k = t := ⟨_, rfl⟩
    rw [ht] at hs ⊢
    have hp : 2 ^ (32 * (i + (k + 1))) = 2 ^ (32 * (i + k)) * 2 ^ 32 := by rw [← Nat.add_assoc, pow_next]
    have ha := add_arith (natOf out) (2 ^ (32 * (i + k))) t (2 ^ 32)
    have hm : 2 ^ (32 * i) * (dig N i * (M % 2 ^ (32 * (k + 1)))) = 2 ^ (32 * i) * (dig N i * (M % 2 ^ (32 * k))) + 2 ^ (32 * (i + k)) * (dig N i * dig M k) := by
      rw [mod_next, show 32 * (i + k) = 32 * i + 32 * k by omega, Nat.pow_add]
      exact spread _ _ _ _ _
    have ht2 : 2 ^ (32 * (i + k)) * t = 2 ^ (32 * (i + k)) * c + 2 ^ (32 * (i + k)) * o + 2 ^ (32 * (i + k)) * (dig N i * dig M k) := by rw [← ht, Nat.mul_add, Nat.mul_add]
    rw [hp, hm]
    exact times_arith h4 hs ha ht2
  · rw [List.length_set] at hjl
    rw [List.getElem?_set_ne (by omega)]
    exact h5 j hj hjl
theorem TimesIn.leave {N M i c : Nat} {out : List Nat} (h : TimesIn N M i (digs M).length out c) (hi : i < (digs N).length) : TimesOut N M (i + 1) (out.set (i + (digs M).length) c) := by
  obtain ⟨h1, h2, h3, h4, h5⟩ := h
  have hz := h5 (i + (digs M).length) (Nat.le_refl _) (by omega)
  refine ⟨by rw [List.length_set]; exact h1, words_set h2 h3, ?_, fun j hj hjl => ?_⟩
  · have hs := natOf_set out (i + (digs M).length) 0 c hz
    rw [Nat.mod_eq_of_lt (digs_top M (Nat.le_refl _))] at h4
    rw [mod_next, Nat.add_mul, Nat.mul_assoc]
    omega
  · rw [List.length_set] at hjl
    rw [List.getElem?_set_ne (by omega)]
    exact h5 j (by omega) hjl
theorem TimesOut.end_ {N M : Nat} {out : List Nat} (h : TimesOut N M (digs N).length out) : trimD out = digs (N * M) := by
  obtain ⟨_, h2, h3, _⟩ := h
  rw [trim_digs _ h2, h3, Nat.mod_eq_of_lt (digs_top N (Nat.le_refl _))]
/-- A bit of a number by its words. -/
theorem bit_dig (N i : Nat) : N.testBit i = (dig N (i / 32) / 2 ^ (i % 32) % 2 == 1) := by
  rw [Nat.testBit_eq_decide_div_mod_eq]
  unfold dig
  have h1 : (2 : Nat) ^ 32 = 2 ^ (i % 32) * (2 * 2 ^ (31 - i % 32)) := by
    rw [← Nat.pow_succ', ← Nat.pow_add]; congr 1; omega
  have h2 : N / 2 ^ (32 * (i / 32)) % 2 ^ 32 / 2 ^ (i % 32) % 2 = N / 2 ^ i % 2 := by
    rw [h1, Nat.mod_mul_right_div_self, Nat.div_div_eq_div_mul, ← Nat.pow_add, Nat.div_add_mod, Nat.mod_mul_right_mod]
  rw [h2]
  cases h : (N / 2 ^ i % 2 == 1) with
  | true => simpa using h
  | false => simpa using h
/-- Is something lost below i? -/
def lostB (N i : Nat) : Bool := N % 2 ^ i != 0
theorem lost_zero (N : Nat) : lostB N 0 = false := by simp [lostB, Nat.mod_one]
theorem lost_next {N i : Nat} (h : lostB N i = false) : lostB N (i + 1) = N.testBit i := by
  unfold lostB at *
  have h0 : N % 2 ^ i = 0 := by simpa using h
  rw [Nat.pow_succ, Nat.mod_mul, h0, Nat.testBit_eq_decide_div_mod_eq]
  have hp : 0 < 2 ^ i := Nat.pow_pos (by omega)
  rcases (show N / 2 ^ i % 2 = 0 ∨ N / 2 ^ i % 2 = 1 by omega) with e | e
  · rw [e]; simp
  · rw [e]; simp
theorem lost_more {N i k : Nat} (h : lostB N i = true) (hik : i ≤ k) : lostB N k = true := by
  unfold lostB at *
  have h0 : N % 2 ^ i ≠ 0 := by simpa using h
  have : N % 2 ^ k ≠ 0 := fun e => h0 (by
    have hd : 2 ^ i ∣ 2 ^ k := Nat.pow_dvd_pow 2 hik
    rw [← Nat.mod_mod_of_dvd N hd, e, Nat.zero_mod])
  simpa using this
theorem lost_top {N i : Nat} (h : lostB N i = false) (hi : 32 * (digs N).length ≤ i) (k : Nat) : lostB N k = false := by
  unfold lostB at *
  have h0 : N % 2 ^ i = 0 := by simpa using h
  have h1 := digs_top N (Nat.le_refl _)
  have h2 : N < 2 ^ i := Nat.lt_of_lt_of_le h1 (Nat.pow_le_pow_right (by omega) hi)
  rw [Nat.mod_eq_of_lt h2] at h0
  subst h0
  simp
/-- Words from place 32 q + r on. -/
theorem down_word (N i r : Nat) (hr : r < 32) : (dig N i + 2 ^ 32 * dig N (i + 1)) / 2 ^ r % 2 ^ 32 = N / 2 ^ (32 * i + r) % 2 ^ 32 := by
  have e : dig N i + 2 ^ 32 * dig N (i + 1) = N / 2 ^ (32 * i) % 2 ^ 64 := by
    unfold dig
    rw [pow_next, ← Nat.div_div_eq_div_mul]
    have : (2 : Nat) ^ 64 = 2 ^ 32 * 2 ^ 32 := by decide
    rw [this, Nat.mod_mul]
  have h64 : (2 : Nat) ^ 64 = 2 ^ r * (2 ^ 32 * 2 ^ (32 - r)) := by rw [← Nat.pow_add, ← Nat.pow_add]; congr 1; omega
  rw [e, h64, Nat.mod_mul_right_div_self, Nat.div_div_eq_div_mul, ← Nat.pow_add, Nat.mod_mul_right_mod]
def DownInv (N q r i : Nat) (out : List Nat) : Prop := out.length = i - q ∧ Words out ∧ natOf out = N / 2 ^ (32 * q + r) % 2 ^ (32 * (i - q))
theorem DownInv.start (N q r : Nat) : DownInv N q r q [] := ⟨by simp, fun d hd => by simp at hd, by simp [natOf, Nat.mod_one]⟩
theorem DownInv.step {N q r i : Nat} {out : List Nat} (h : DownInv N q r i out) (hq : q ≤ i) (hr : r < 32) : DownInv N q r (i + 1) (out ++ [(dig N i + 2 ^ 32 * dig N (i + 1)) / 2 ^ r % 2 ^ 32]) := by
  obtain ⟨h1, h2, h3⟩ := h
  refine ⟨by simp [h1]; omega, words_snoc h2 (Nat.mod_lt _ (by decide)), ?_⟩
  rw [natOf_append, natOf_one, h1, h3, down_word N i r hr, show i + 1 - q = (i - q) + 1 by omega, mod_next]
  congr 2
  unfold dig
  rw [Nat.div_div_eq_div_mul, ← Nat.pow_add]
  congr 3
  omega
theorem DownInv.end_ {N q r i : Nat} {out : List Nat} (h : DownInv N q r i out) (hi : (digs N).length ≤ i) (hq : q ≤ i) : trimD out = digs (N / 2 ^ (32 * q + r)) := by
  obtain ⟨h1, h2, h3⟩ := h
  rw [trim_digs _ h2, h3]
  congr 1
  refine Nat.mod_eq_of_lt ?_
  rw [Nat.div_lt_iff_lt_mul (Nat.pow_pos (by omega)), ← Nat.pow_add]
  exact Nat.lt_of_lt_of_le (digs_top N hi) (Nat.pow_le_pow_right (by omega) (by omega))
theorem down_none {N q r : Nat} (hi : (digs N).length ≤ q) : N / 2 ^ (32 * q + r) = 0 :=
  Nat.div_eq_of_lt (Nat.lt_of_lt_of_le (digs_top N hi) (Nat.pow_le_pow_right (by omega) (by omega)))
/-- Long division, bit by bit: behind bit i. -/
def PartsInv (N M i : Nat) (q : List Nat) : Prop := q.length = (digs N).length ∧ Words q ∧ natOf q = N / 2 ^ i / M * 2 ^ i
theorem PartsInv.start (N M : Nat) : PartsInv N M (bitsN N) (List.replicate (digs N).length 0) := by
  refine ⟨by simp, words_zeros _, ?_⟩
  rw [natOf_zeros, Nat.div_eq_of_lt (bitsN_lt N), Nat.zero_div, Nat.zero_mul]
theorem parts_rest (N M i : Nat) : N / 2 ^ i = M * (2 * (N / 2 ^ (i + 1) / M)) + (2 * (N / 2 ^ (i + 1) % M) + (N.testBit i).toNat) := by
  have h1 : N / 2 ^ i = 2 * (N / 2 ^ (i + 1)) + (N.testBit i).toNat := by
    rw [Nat.pow_succ, ← Nat.div_div_eq_div_mul, Nat.testBit_eq_decide_div_mod_eq]
    rcases (show N / 2 ^ i % 2 = 0 ∨ N / 2 ^ i % 2 = 1 by omega) with e | e
    · rw [e]; simp; omega
    · rw [e]; simp; omega
  have h2 := Nat.div_add_mod (N / 2 ^ (i + 1)) M
  have h3 : M * (2 * (N / 2 ^ (i + 1) / M)) = 2 * (M * (N / 2 ^ (i + 1) / M)) := by ac_rfl
  rw [h3, h1]
  omega
theorem parts_no {N M i : Nat} (hM : 0 < M) (h : 2 * (N / 2 ^ (i + 1) % M) + (N.testBit i).toNat < M) : N / 2 ^ i % M = 2 * (N / 2 ^ (i + 1) % M) + (N.testBit i).toNat ∧ N / 2 ^ i / M = 2 * (N / 2 ^ (i + 1) / M) := by
  rw [parts_rest N M i, Nat.mul_add_mod, Nat.mod_eq_of_lt h, Nat.mul_add_div hM, Nat.div_eq_of_lt h]
  exact ⟨rfl, rfl⟩
theorem parts_yes {N M i : Nat} (hM : 0 < M) (h : M ≤ 2 * (N / 2 ^ (i + 1) % M) + (N.testBit i).toNat) : N / 2 ^ i % M = 2 * (N / 2 ^ (i + 1) % M) + (N.testBit i).toNat - M ∧ N / 2 ^ i / M = 2 * (N / 2 ^ (i + 1) / M) + 1 := by
  have hlt := Nat.mod_lt (N / 2 ^ (i + 1)) hM
  have hb : (N.testBit i).toNat ≤ 1 := by cases N.testBit i <;> decide
  obtain ⟨x, hx⟩ : ∃ x, 2 * (N / 2 ^ (i + 1) % M) + (N.testBit i).toNat = M + x := ⟨_, (Nat.add_sub_cancel' h).symm⟩
  have hx2 : x < M := by omega
  have e : N / 2 ^ i = M * (2 * (N / 2 ^ (i + 1) / M) + 1) + x := by rw [parts_rest N M i, hx, Nat.mul_add, Nat.mul_one]; omega
  rw [e, Nat.mul_add_mod, Nat.mod_eq_of_lt hx2, Nat.mul_add_div hM, Nat.div_eq_of_lt hx2, hx]
  exact ⟨by omega, rfl⟩
theorem PartsInv.no {N M i : Nat} {q : List Nat} (h : PartsInv N M (i + 1) q) (hM : 0 < M) (hx : 2 * (N / 2 ^ (i + 1) % M) + (N.testBit i).toNat < M) : PartsInv N M i q := by
  obtain ⟨h1, h2, h3⟩ := h
  refine ⟨h1, h2, ?_⟩
  rw [h3, (parts_no hM hx).2, Nat.pow_succ]
  ac_rfl
/-- A word's bit that is not there yet. -/
theorem or_bit {x r : Nat} (h : x / 2 ^ r % 2 = 0) : x ||| 2 ^ r = x + 2 ^ r := by
  have hb : x.testBit r = false := by rw [Nat.testBit_eq_decide_div_mod_eq, h]; rfl
  have e : x = 2 ^ (r + 1) * (x / 2 ^ (r + 1)) + x % 2 ^ r := by
    have h1 := Nat.div_add_mod x (2 ^ (r + 1))
    rw [Nat.pow_succ, Nat.mod_mul, h] at h1
    rw [Nat.pow_succ]
    omega
  apply Nat.eq_of_testBit_eq
  intro j
  have hlow : x % 2 ^ r < 2 ^ r := Nat.mod_lt _ (Nat.pow_pos (by omega))
  have e2 : x + 2 ^ r = 2 ^ (r + 1) * (x / 2 ^ (r + 1)) + (2 ^ r + x % 2 ^ r) := by omega
  have h3 : 2 ^ r + x % 2 ^ r < 2 ^ (r + 1) := by rw [Nat.pow_succ]; omega
  rw [Nat.testBit_or, e2, Nat.testBit_two_pow_mul_add _ h3, Nat.testBit_two_pow]
  conv => lhs; rw [e]
  rw [Nat.testBit_two_pow_mul_add _ (by rw [Nat.pow_succ]; omega : x % 2 ^ r < 2 ^ (r + 1))]
  by_cases hj : j < r + 1
  · rw [if_pos hj, if_pos hj]
    by_cases hjr : r = j
    · subst hjr
      have : (2 ^ r + x % 2 ^ r).testBit r = true := by
        have := Nat.testBit_two_pow_add_eq (x % 2 ^ r) r
        rw [this, Nat.testBit_lt_two_pow hlow]; rfl
      rw [this]; simp
    · have : (2 ^ r + x % 2 ^ r).testBit j = (x % 2 ^ r).testBit j := Nat.testBit_two_pow_add_gt (by omega) _
      rw [this, decide_eq_false hjr, Bool.or_false]
  · rw [if_neg hj, if_neg hj, decide_eq_false (by omega), Bool.or_false]
theorem PartsInv.yes {N M i o : Nat} {q : List Nat} (h : PartsInv N M (i + 1) q) (hM : 0 < M) (hx : M ≤ 2 * (N / 2 ^ (i + 1) % M) + (N.testBit i).toNat) (ho : q[i / 32]? = some o) :
    PartsInv N M i (q.set (i / 32) (o ||| 2 ^ (i % 32))) ∧ o ||| 2 ^ (i % 32) < 2 ^ 32 := by
  obtain ⟨h1, h2, h3⟩ := h
  have ho32 : o < 2 ^ 32 := h2 o (List.mem_of_getElem? ho)
  have hlt : o ||| 2 ^ (i % 32) < 2 ^ 32 := Nat.or_lt_two_pow ho32 (Nat.pow_lt_pow_right (by omega) (Nat.mod_lt _ (by omega)))
  have hod : o = dig (natOf q) (i / 32) := by
    have hlen : natOf (q.take (i / 32)) < 2 ^ (32 * (i / 32)) := by
      have h5 := natOf_lt (q.take (i / 32)) (fun d hd => h2 d (List.mem_of_mem_take hd))
      have : (q.take (i / 32)).length ≤ i / 32 := by rw [List.length_take]; omega
      exact Nat.lt_of_lt_of_le h5 (Nat.pow_le_pow_right (by omega) (by omega))
    obtain ⟨hi, he⟩ := List.getElem?_eq_some_iff.1 ho
    have e := natOf_append (q.take (i / 32)) (q.drop (i / 32))
    rw [List.take_append_drop, List.drop_eq_getElem_cons hi, natOf, he, List.length_take, Nat.min_eq_left (by omega)] at e
    unfold dig
    rw [e, Nat.add_comm (natOf (List.take _ _)), Nat.mul_add_div (Nat.pow_pos (by omega)), Nat.div_eq_of_lt hlen, Nat.add_zero, Nat.add_mul_mod_self_left, Nat.mod_eq_of_lt ho32]
  have hbit : o / 2 ^ (i % 32) % 2 = 0 := by
    have h4 : (natOf q).testBit i = false := by
      rw [h3, Nat.mul_comm, Nat.testBit_two_pow_mul]
      simp
      omega
    rw [bit_dig, ← hod] at h4
    have : ¬ o / 2 ^ (i % 32) % 2 = 1 := by simpa using h4
    omega
  refine ⟨⟨by rw [List.length_set]; exact h1, words_set h2 hlt, ?_⟩, hlt⟩
  have hs := natOf_set q (i / 32) o (o ||| 2 ^ (i % 32)) ho
  rw [or_bit hbit, Nat.mul_add, ← Nat.pow_add, Nat.div_add_mod] at hs
  rw [or_bit hbit, (parts_yes hM hx).2, Nat.add_mul, Nat.one_mul]
  rw [h3, Nat.pow_succ] at hs
  have e : 2 * (N / 2 ^ (i + 1) / M) * 2 ^ i = N / (2 ^ i * 2) / M * (2 ^ i * 2) := by rw [Nat.pow_succ]; ac_rfl
  omega
theorem PartsInv.end_ {N M : Nat} {q : List Nat} (h : PartsInv N M 0 q) : trimD q = digs (N / M) := by
  obtain ⟨_, h2, h3⟩ := h
  rw [trim_digs _ h2, h3, Nat.pow_zero, Nat.div_one, Nat.mul_one]
end Go.Proofs.YtajaijidecomdaaGreatDoor.FL
