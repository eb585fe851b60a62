/- The plain law of Go's stable sort, its blocks: what the insertion sort of each block and the merge of each two blocks make of an array whose tags rise. -/
import Derived.Test.YtihidnmpngeohaaGreatStab
namespace Go.Proofs.YtihidnmpngeohaaGreat
open Go.Sort
section
variable {α : Type} [Inhabited α] {lt : α → α → Bool} {tag : α → Nat}
/-- What stands ahead of c has lesser tags than what stands from c on. -/
def CutAt (tag : α → Nat) (n c : Nat) (d : Array α) : Prop := ∀ i j, i < c → c ≤ j → j < n → tag d[i]! < tag d[j]!
theorem CutAt.perm {n c a b : Nat} {d d' : Array α} (h : CutAt tag n c d) (hp : PermIn a b d d') (hc : c ≤ a ∨ b ≤ c) (hb : b ≤ n) (hn : n ≤ d.size) : CutAt tag n c d' := by
  intro i j hi hj hjn
  rcases hc with hc | hc
  · rw [hp.2.1 i (.inl (by omega))]
    exact permIn_all d d' c n (fun y => tag d[i]! < tag y) hn (permIn_mono _ _ _ _ _ _ hc hb hn hp) (fun j' h1 h2 => h i j' hi h1 h2) j hj hjn
  · rw [hp.2.1 j (.inr (by omega))]
    exact permIn_all d d' 0 c (fun x => tag x < tag d[j]!) (by omega) (permIn_mono _ _ _ _ _ _ (Nat.zero_le _) hc (by omega) hp) (fun i' _ h2 => h i' j h2 hj hjn) i (Nat.zero_le _) hi
theorem mult_eq {b a c : Nat} (ha : b ∣ a) (hc : b ∣ c) (h1 : c ≤ a) (h2 : a < c + b) : a = c := by
  have h : b ∣ a - c := Nat.dvd_sub ha hc
  rcases Nat.eq_zero_or_pos (a - c) with h0 | h0
  · omega
  · have := Nat.le_of_dvd h0 h; omega
theorem mult_far {b a c : Nat} (ha : b ∣ a) (hc : b ∣ c) (h1 : a < c) : a + b ≤ c := by
  rcases Nat.lt_or_ge c (a + b) with h | h
  · have := mult_eq hc ha (by omega) h; omega
  · exact h
/-- Every block of bs is sorted; the blocks' tags rise. -/
structure Blocks (lt : α → α → Bool) (tag : α → Nat) (bs n : Nat) (d : Array α) : Prop where
  b1 : ∀ c, bs ∣ c → SortedR lt tag c (min (c + bs) n) d
  b2 : ∀ c, bs ∣ c → CutAt tag n c d
/-- The blocks ahead of a are sorted, what stands from a on is as it was. -/
structure FirstB (lt : α → α → Bool) (tag : α → Nat) (bs n a : Nat) (d : Array α) : Prop where
  f1 : ∀ c, bs ∣ c → c + bs ≤ a → SortedR lt tag c (c + bs) d
  f2 : ∀ c, bs ∣ c → CutAt tag n c d
  f3 : TagsIn tag a n d
theorem FirstB.start {bs n : Nat} {d : Array α} (hb : 0 < bs) (h : TagsIn tag 0 n d) : FirstB lt tag bs n 0 d :=
  ⟨fun c _ h1 => by omega, fun c _ i j hi hj hjn => h i j (Nat.zero_le _) (by omega) hjn, h⟩
theorem FirstB.step {bs n a : Nat} {d d' : Array α} (h : FirstB lt tag bs n a d) (ha : bs ∣ a) (hn : a + bs ≤ n) (hs : n ≤ d.size) (hp : PermIn a (a + bs) d d') (hsrt : SortedR lt tag a (a + bs) d') : FirstB lt tag bs n (a + bs) d' := by
  refine ⟨fun c hc h1 => ?_, fun c hc => (h.f2 c hc).perm hp ?_ hn hs, fun i j hi hij hj => ?_⟩
  · rcases Nat.lt_or_ge a (c + bs) with h2 | h2
    · rw [← mult_eq ha hc (by omega) h2]; exact hsrt
    · exact (h.f1 c hc h2).congr fun p _ hp2 => hp.2.1 p (.inl (by omega))
  · rcases Nat.lt_or_ge a c with h2 | h2
    · exact .inr (mult_far ha hc h2)
    · exact .inl h2
  · rw [hp.2.1 i (.inr hi), hp.2.1 j (.inr (by omega))]
    exact h.f3 i j (by omega) hij hj
theorem FirstB.done {bs n a : Nat} {d d' : Array α} (h : FirstB lt tag bs n a d) (ha : bs ∣ a) (han : a ≤ n) (hn : n < a + bs) (hs : n ≤ d.size) (hp : PermIn a n d d') (hsrt : SortedR lt tag a n d') : Blocks lt tag bs n d' := by
  refine ⟨fun c hc => ?_, fun c hc => ?_⟩
  · rcases Nat.lt_or_ge a c with h2 | h2
    · exact SortedR.empty (by have := mult_far ha hc h2; omega)
    · rcases Nat.lt_or_ge a (c + bs) with h3 | h3
      · obtain rfl := mult_eq ha hc h2 h3
        rw [Nat.min_eq_right (by omega)]; exact hsrt
      · rw [Nat.min_eq_left (by omega)]
        exact (h.f1 c hc h3).congr fun p _ hp2 => hp.2.1 p (.inl (by omega))
  · rcases Nat.lt_or_ge a c with h2 | h2
    · have := mult_far ha hc h2
      exact (h.f2 c hc).perm hp (.inr (by omega)) (Nat.le_refl _) hs
    · exact (h.f2 c hc).perm hp (.inl h2) (Nat.le_refl _) hs
/-- Two and two are merged ahead of a. -/
structure HalfB (lt : α → α → Bool) (tag : α → Nat) (bs n a : Nat) (d : Array α) : Prop where
  h1 : ∀ c, 2 * bs ∣ c → c + 2 * bs ≤ a → SortedR lt tag c (c + 2 * bs) d
  h2 : ∀ c, bs ∣ c → a ≤ c → SortedR lt tag c (min (c + bs) n) d
  h3 : ∀ c, bs ∣ c → (a ≤ c ∨ 2 * bs ∣ c) → CutAt tag n c d
theorem dvd_two {bs c : Nat} (h : 2 * bs ∣ c) : bs ∣ c := Nat.dvd_trans ⟨2, by rw [Nat.mul_comm]⟩ h
theorem dvd_step {bs c : Nat} (h : bs ∣ c) : bs ∣ c + bs := Nat.dvd_add h (Nat.dvd_refl _)
theorem Blocks.half {bs n : Nat} {d : Array α} (hb : 0 < bs) (h : Blocks lt tag bs n d) : HalfB lt tag bs n 0 d :=
  ⟨fun c _ h1 => by omega, fun c hc _ => h.b1 c hc, fun c hc _ => h.b2 c hc⟩
theorem HalfB.runs {bs n a b : Nat} {d : Array α} (h : HalfB lt tag bs n a d) (ha : 2 * bs ∣ a) (h1 : a + bs < b) (h2 : b ≤ n) (h3 : b ≤ a + 2 * bs) : Runs lt tag a (a + bs) b d := by
  have ha' := dvd_two ha
  refine ⟨?_, ?_, fun i j _ hi hj hjb => h.h3 (a + bs) (dvd_step ha') (.inl (by omega)) i j hi hj (by omega)⟩
  · have := h.h2 a ha' (Nat.le_refl _)
    rwa [Nat.min_eq_left (by omega)] at this
  · exact (h.h2 (a + bs) (dvd_step ha') (by omega)).sub (Nat.le_refl _) (by omega)
theorem HalfB.step {bs n a : Nat} {d d' : Array α} (h : HalfB lt tag bs n a d) (ha : 2 * bs ∣ a) (hn : a + 2 * bs ≤ n) (hs : n ≤ d.size) (hp : PermIn a (a + 2 * bs) d d') (hsrt : SortedR lt tag a (a + 2 * bs) d') : HalfB lt tag bs n (a + 2 * bs) d' := by
  refine ⟨fun c hc h1 => ?_, fun c hc h1 => ?_, fun c hc h1 => ?_⟩
  · rcases Nat.lt_or_ge a (c + 2 * bs) with h2 | h2
    · rw [← mult_eq ha hc (by omega) h2]; exact hsrt
    · exact (h.h1 c hc h2).congr fun p _ hp2 => hp.2.1 p (.inl (by omega))
  · exact (h.h2 c hc (by omega)).congr fun p hp1 _ => hp.2.1 p (.inr (by omega))
  · rcases h1 with h1 | h1
    · exact (h.h3 c hc (.inl (by omega))).perm hp (.inr h1) hn hs
    · refine (h.h3 c hc (.inr h1)).perm hp ?_ hn hs
      rcases Nat.lt_or_ge a c with h2 | h2
      · exact .inr (mult_far ha h1 h2)
      · exact .inl h2
/-- What is left behind the last two: merged too, or one block at most. -/
theorem HalfB.done {bs n a : Nat} {d d' : Array α} (h : HalfB lt tag bs n a d) (ha : 2 * bs ∣ a) (han : a ≤ n) (hn : n < a + 2 * bs) (hs : n ≤ d.size) (hp : PermIn a n d d') (hsrt : SortedR lt tag a n d') : Blocks lt tag (2 * bs) n d' := by
  refine ⟨fun c hc => ?_, fun c hc => ?_⟩
  · rcases Nat.lt_or_ge a c with h2 | h2
    · exact SortedR.empty (by have := mult_far ha hc h2; omega)
    · rcases Nat.lt_or_ge a (c + 2 * bs) with h3 | h3
      · obtain rfl := mult_eq ha hc h2 h3
        rw [Nat.min_eq_right (by omega)]; exact hsrt
      · rw [Nat.min_eq_left (by omega)]
        exact (h.h1 c hc h3).congr fun p _ hp2 => hp.2.1 p (.inl (by omega))
  · rcases Nat.lt_or_ge a c with h2 | h2
    · have := mult_far ha hc h2
      exact (h.h3 c (dvd_two hc) (.inr hc)).perm hp (.inr (by omega)) (Nat.le_refl _) hs
    · exact (h.h3 c (dvd_two hc) (.inr hc)).perm hp (.inl h2) (Nat.le_refl _) hs
theorem HalfB.rest {bs n a : Nat} {d : Array α} (h : HalfB lt tag bs n a d) (ha : 2 * bs ∣ a) (hn : n ≤ a + bs) : SortedR lt tag a n d := by
  have := h.h2 a (dvd_two ha) (Nat.le_refl _)
  rwa [Nat.min_eq_right hn] at this
theorem Blocks.whole {bs n : Nat} {d : Array α} (h : Blocks lt tag bs n d) (hn : n ≤ bs) : SortedR lt tag 0 n d := by
  have := h.b1 0 (Nat.dvd_zero _)
  rwa [Nat.min_eq_right (by omega)] at this
end
end Go.Proofs.YtihidnmpngeohaaGreat
