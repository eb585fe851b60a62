/- The plain law of Go's stable sort (slices.stableCmpFunc and what it calls), over arrays, with no program in sight: what a swap of two ranges, a rotation, a merge of two runs and the insertion sort do to an array, told by an order in which ties go by a tag. -/
import Derived.Sort.LotA
import Derived.Sort.WalkA
import Derived.Shelf.GgSortFunc.RowK
namespace Go.Proofs.YtajaijidecomdaaGreatDoor
open Go.Sort

section
variable {α : Type} [Inhabited α]

/-- An array made place by place. -/
def arrOf (n : Nat) (f : Nat → α) : Array α := (Array.range n).map f
theorem ext_at {a b : Array α} (hs : a.size = b.size) (h : ∀ t, t < a.size → a[t]! = b[t]!) : a = b :=
  Array.ext hs fun t h1 h2 => by have := h t h1; rwa [getElem!_pos a t h1, getElem!_pos b t h2] at this
omit [Inhabited α] in
theorem size_arrOf (n : Nat) (f : Nat → α) : (arrOf n f).size = n := by simp [arrOf]
theorem get_arrOf (n : Nat) (f : Nat → α) (x : Nat) (h : x < n) : (arrOf n f)[x]! = f x := by simp [arrOf, h]

/-! ### two ranges exchanged -/
def swapRg (d : Array α) (a b n : Nat) : Array α := arrOf d.size fun x => if a ≤ x ∧ x < a + n then d[b + (x - a)]! else if b ≤ x ∧ x < b + n then d[a + (x - b)]! else d[x]!
theorem size_swapRg (d : Array α) (a b n : Nat) : (swapRg d a b n).size = d.size := size_arrOf _ _
theorem swapRg_zero (d : Array α) (a b : Nat) : swapRg d a b 0 = d :=
  ext_at (size_swapRg _ _ _ _) fun t ht => by
    rw [size_swapRg] at ht
    unfold swapRg
    rw [get_arrOf _ _ _ ht, if_neg (by omega), if_neg (by omega)]
theorem swapRg_succ (d : Array α) (a b n : Nat) (hab : a + n < b) (hb : b + n < d.size) : swp (swapRg d a b n) (a + n) (b + n) = swapRg d a b (n + 1) := by
  have hs := size_swapRg d a b n
  refine ext_at (by rw [size_swp, hs, size_swapRg]) fun t ht => ?_
  rw [size_swp, hs] at ht
  rw [swp_get _ (by omega) (by omega)]
  unfold swapRg
  rw [get_arrOf _ _ _ ht, get_arrOf _ _ _ (by omega), get_arrOf _ _ _ (by omega), get_arrOf _ _ _ ht]
  by_cases h1 : t = b + n
  · subst h1
    rw [if_pos rfl, if_neg (by omega), if_neg (by omega), if_neg (by omega), if_pos (by omega)]
    congr 1; omega
  · rw [if_neg h1]
    by_cases h2 : t = a + n
    · subst h2
      rw [if_pos rfl, if_neg (by omega), if_neg (by omega), if_pos (by omega)]
      congr 1; omega
    · rw [if_neg h2]
      by_cases h3 : a ≤ t ∧ t < a + n
      · rw [if_pos h3, if_pos ⟨h3.1, by omega⟩]
      · have h3' : ¬ (a ≤ t ∧ t < a + (n + 1)) := by omega
        rw [if_neg h3, if_neg h3']
        by_cases h4 : b ≤ t ∧ t < b + n
        · rw [if_pos h4, if_pos ⟨h4.1, by omega⟩]
        · have h4' : ¬ (b ≤ t ∧ t < b + (n + 1)) := by omega
          rw [if_neg h4, if_neg h4']
theorem swapRg_get (d : Array α) (a b n x : Nat) (hx : x < d.size) : (swapRg d a b n)[x]! = if a ≤ x ∧ x < a + n then d[b + (x - a)]! else if b ≤ x ∧ x < b + n then d[a + (x - b)]! else d[x]! := by
  unfold swapRg; rw [get_arrOf _ _ _ hx]
theorem swapRg_permIn (d : Array α) (a b lo hi : Nat) (hlo : lo ≤ a) : ∀ n, a + n ≤ b → b + n ≤ hi → hi ≤ d.size → PermIn lo hi d (swapRg d a b n)
  | 0, _, _, _ => by rw [swapRg_zero]; exact permIn_refl _ _ _
  | n + 1, h1, h2, h3 => by
    rw [← swapRg_succ d a b n (by omega) (by omega)]
    exact permIn_trans _ _ _ _ _ (swapRg_permIn d a b lo hi hlo n (by omega) (by omega) h3) (swp_permIn _ _ _ _ _ (by omega) (by omega) (by omega) (by omega) (by rw [size_swapRg]; exact h3))

/-! ### a rotation -/
/-- The blocks [a, m) and [m, b) exchanged. -/
def rotA (d : Array α) (a m b : Nat) : Array α := arrOf d.size fun x => if a ≤ x ∧ x < a + (b - m) then d[m + (x - a)]! else if a + (b - m) ≤ x ∧ x < b then d[x - (b - m)]! else d[x]!
theorem size_rotA (d : Array α) (a m b : Nat) : (rotA d a m b).size = d.size := size_arrOf _ _
theorem rotA_get (d : Array α) (a m b x : Nat) (hx : x < d.size) : (rotA d a m b)[x]! = if a ≤ x ∧ x < a + (b - m) then d[m + (x - a)]! else if a + (b - m) ≤ x ∧ x < b then d[x - (b - m)]! else d[x]! := by
  unfold rotA; rw [get_arrOf _ _ _ hx]
/-- The left block is the longer one: its tail's first j places are exchanged with the right block; the rest is a rotation again. -/
theorem rotA_left (c : Array α) (m i j : Nat) (hi : i ≤ m) (hj : j < i) (hb : m + j ≤ c.size) : rotA (swapRg c (m - i) m j) (m - (i - j)) m (m + j) = rotA c (m - i) m (m + j) := by
  refine ext_at (by simp only [size_rotA, size_swapRg]) fun t ht => ?_
  rw [size_rotA, size_swapRg] at ht
  rw [rotA_get _ _ _ _ _ (by rw [size_swapRg]; exact ht), rotA_get _ _ _ _ _ ht]
  by_cases h1 : t < m - i
  · rw [if_neg (by omega), if_neg (by omega), if_neg (by omega), if_neg (by omega), swapRg_get _ _ _ _ _ ht, if_neg (by omega), if_neg (by omega)]
  · by_cases h2 : t < m - i + j
    · rw [if_neg (by omega), if_neg (by omega), if_pos (by omega), swapRg_get _ _ _ _ _ ht, if_pos (by omega)]
    · by_cases h3 : t < m - i + j + j
      · by_cases h5 : t < m
        · rw [if_pos (by omega), if_neg (by omega), if_pos (by omega), swapRg_get _ _ _ _ _ (by omega), if_neg (by omega), if_pos (by omega)]
          congr 1; omega
        · rw [if_pos (by omega), if_neg (by omega), if_pos (by omega), swapRg_get _ _ _ _ _ (by omega), if_neg (by omega), if_pos (by omega)]
          congr 1; omega
      · by_cases h4 : t < m + j
        · rw [if_neg (by omega), if_pos (by omega), if_neg (by omega), if_pos (by omega), swapRg_get _ _ _ _ _ (by omega), if_neg (by omega), if_neg (by omega)]
        · rw [if_neg (by omega), if_neg (by omega), if_neg (by omega), if_neg (by omega), swapRg_get _ _ _ _ _ ht, if_neg (by omega), if_neg (by omega)]
/-- The right block is the longer one, or as long. -/
theorem rotA_right (c : Array α) (m i j : Nat) (hi : i ≤ m) (hj : i ≤ j) (hb : m + j ≤ c.size) : rotA (swapRg c (m - i) (m + j - i) i) (m - i) m (m + (j - i)) = rotA c (m - i) m (m + j) := by
  refine ext_at (by simp only [size_rotA, size_swapRg]) fun t ht => ?_
  rw [size_rotA, size_swapRg] at ht
  rw [rotA_get _ _ _ _ _ (by rw [size_swapRg]; exact ht), rotA_get _ _ _ _ _ ht]
  by_cases h1 : t < m - i
  · rw [if_neg (by omega), if_neg (by omega), if_neg (by omega), if_neg (by omega), swapRg_get _ _ _ _ _ ht, if_neg (by omega), if_neg (by omega)]
  · by_cases h2 : t < m - i + (j - i)
    · rw [if_pos (by omega), if_pos (by omega), swapRg_get _ _ _ _ _ (by omega), if_neg (by omega), if_neg (by omega)]
    · by_cases h3 : t < m + (j - i)
      · rw [if_neg (by omega), if_pos (by omega), if_pos (by omega), swapRg_get _ _ _ _ _ (by omega), if_pos (by omega)]
        congr 1; omega
      · by_cases h4 : t < m + j
        · rw [if_neg (by omega), if_neg (by omega), if_neg (by omega), if_pos (by omega), swapRg_get _ _ _ _ _ ht, if_neg (by omega), if_pos (by omega)]
          congr 1; omega
        · rw [if_neg (by omega), if_neg (by omega), if_neg (by omega), if_neg (by omega), swapRg_get _ _ _ _ _ ht, if_neg (by omega), if_neg (by omega)]
/-- Blocks of one length: one exchange. -/
theorem rotA_even (c : Array α) (m i : Nat) (hi : i ≤ m) : swapRg c (m - i) m i = rotA c (m - i) m (m + i) := by
  refine ext_at (by simp only [size_rotA, size_swapRg]) fun t ht => ?_
  rw [size_swapRg] at ht
  rw [rotA_get _ _ _ _ _ ht, swapRg_get _ _ _ _ _ ht]
  by_cases h1 : t < m - i
  · rw [if_neg (by omega), if_neg (by omega), if_neg (by omega), if_neg (by omega)]
  · by_cases h2 : t < m
    · rw [if_pos (by omega), if_pos (by omega)]
    · by_cases h4 : t < m + i
      · rw [if_neg (by omega), if_pos (by omega), if_neg (by omega), if_pos (by omega)]
        congr 1; omega
      · rw [if_neg (by omega), if_neg (by omega), if_neg (by omega), if_neg (by omega)]
theorem rotA_permIn (d : Array α) (a m b lo hi : Nat) (hlo : lo ≤ a) (ham : a ≤ m) (hmb : m ≤ b) (hhi : b ≤ hi) (hs : hi ≤ d.size) : PermIn lo hi d (rotA d a m b) := by
  have base : PermIn a b d (rotA d a m b) := by
    refine ⟨size_rotA _ _ _ _, fun i hio => ?_, ?_⟩
    · by_cases hx : i < d.size
      · rw [rotA_get _ _ _ _ _ hx, if_neg (by omega), if_neg (by omega)]
      · rw [getElem!_neg (rotA d a m b) i (by rw [size_rotA]; exact hx), getElem!_neg d i hx]
    · rw [extract_toList _ _ _ (by rw [size_rotA]; omega), extract_toList _ _ _ (by omega)]
      have e1 : List.range' a (b - a) = List.range' a (b - m) ++ List.range' (a + (b - m)) (m - a) := by
        rw [List.range'_append_1]; congr 1; omega
      have e2 : List.range' a (b - a) = List.range' a (m - a) ++ List.range' m (b - m) := by
        have h := List.range'_append_1 (s := a) (m := m - a) (n := b - m)
        rw [show a + (m - a) = m by omega] at h
        rw [h]; congr 1; omega
      conv => lhs; rw [e1, List.map_append]
      conv => rhs; rw [e2, List.map_append]
      have f1 : (List.range' a (b - m)).map (fun i => (rotA d a m b)[i]!) = (List.range' m (b - m)).map (fun i => d[i]!) := by
        apply List.ext_getElem (by simp)
        intro k h1 h2
        simp at h1
        simp only [List.getElem_map, List.getElem_range', Nat.one_mul]
        rw [rotA_get _ _ _ _ _ (by omega), if_pos (by omega)]
        congr 1; omega
      have f2 : (List.range' (a + (b - m)) (m - a)).map (fun i => (rotA d a m b)[i]!) = (List.range' a (m - a)).map (fun i => d[i]!) := by
        apply List.ext_getElem (by simp)
        intro k h1 h2
        simp at h1
        simp only [List.getElem_map, List.getElem_range', Nat.one_mul]
        rw [rotA_get _ _ _ _ _ (by omega), if_neg (by omega), if_pos (by omega)]
        congr 1; omega
      rw [f1, f2]
      exact List.perm_append_comm
  exact permIn_mono _ _ _ _ _ _ hlo hhi hs base

/-! ### the order in which ties go by a tag -/
variable (lt : α → α → Bool) (tag : α → Nat)
def Rt (x y : α) : Prop := lt x y = true ∨ (lt y x = false ∧ tag x < tag y)
def SortedR (a b : Nat) (d : Array α) : Prop := ∀ i j, a ≤ i → i < j → j < b → Rt lt tag d[i]! d[j]!
variable {lt tag}
omit [Inhabited α] in
theorem Rt.trans (hS : SWO lt) {x y z : α} (h1 : Rt lt tag x y) (h2 : Rt lt tag y z) : Rt lt tag x z := by
  rcases h1 with h1 | ⟨h1, t1⟩ <;> rcases h2 with h2 | ⟨h2, t2⟩
  · exact .inl (hS.trans _ _ _ h1 h2)
  · left
    cases h : lt x z with
    | true => rfl
    | false => have := hS.ntrans _ _ _ h h2; rw [h1] at this; cases this
  · left
    cases h : lt x z with
    | true => rfl
    | false => have := hS.ntrans _ _ _ h1 h; rw [h2] at this; cases this
  · exact .inr ⟨hS.ntrans _ _ _ h2 h1, by omega⟩
omit [Inhabited α] in
theorem Rt.of_left {x y : α} (ht : tag x < tag y) (h : lt y x = false) : Rt lt tag x y := .inr ⟨h, ht⟩
theorem SortedR.empty {a b : Nat} {d : Array α} (h : b ≤ a + 1) : SortedR lt tag a b d := fun i j h1 h2 h3 => by omega
theorem SortedR.sub {a b a' b' : Nat} {d : Array α} (h : SortedR lt tag a b d) (ha : a ≤ a') (hb : b' ≤ b) : SortedR lt tag a' b' d := fun i j h1 h2 h3 => h i j (by omega) h2 (by omega)
theorem SortedR.congr {a b : Nat} {d d' : Array α} (h : SortedR lt tag a b d) (he : ∀ p, a ≤ p → p < b → d'[p]! = d[p]!) : SortedR lt tag a b d' := fun i j h1 h2 h3 => by
  rw [he i h1 (by omega), he j (by omega) h3]; exact h i j h1 h2 h3
/-- Two sorted parts, the one ahead of the other. -/
theorem SortedR.join {a m b : Nat} {d : Array α} (h1 : SortedR lt tag a m d) (h2 : SortedR lt tag m b d) (h : ∀ i j, a ≤ i → i < m → m ≤ j → j < b → Rt lt tag d[i]! d[j]!) : SortedR lt tag a b d := fun i j hi hij hj => by
  by_cases hm : j < m
  · exact h1 i j hi hij hm
  · by_cases him : m ≤ i
    · exact h2 i j him hij hj
    · exact h i j hi (by omega) (by omega) hj
/-- .. it is enough that the two at the border are. -/
theorem SortedR.join_at (hS : SWO lt) {a m b : Nat} {d : Array α} (h1 : SortedR lt tag a m d) (h2 : SortedR lt tag m b d) (h : a < m → m < b → Rt lt tag d[m - 1]! d[m]!) : SortedR lt tag a b d :=
  SortedR.join h1 h2 fun i j hi him hmj hj => by
    have hb := h (by omega) (by omega)
    have l : i = m - 1 ∨ Rt lt tag d[i]! d[m - 1]! := by
      by_cases e : i = m - 1
      · exact .inl e
      · exact .inr (h1 i (m - 1) hi (by omega) (by omega))
    have r : j = m ∨ Rt lt tag d[m]! d[j]! := by
      by_cases e : j = m
      · exact .inl e
      · exact .inr (h2 m j (Nat.le_refl _) (by omega) hj)
    have lb : Rt lt tag d[i]! d[m]! := by
      rcases l with rfl | l
      · exact hb
      · exact l.trans hS hb
    rcases r with rfl | r
    · exact lb
    · exact lb.trans hS r

/-- Two sorted runs side by side; what stands in the left one has the lesser tags. -/
structure Runs (lt : α → α → Bool) (tag : α → Nat) (a m b : Nat) (d : Array α) : Prop where
  left : SortedR lt tag a m d
  right : SortedR lt tag m b d
  tags : ∀ i j, a ≤ i → i < m → m ≤ j → j < b → tag d[i]! < tag d[j]!

/-- What a permutation of [a, b) keeps of a property of pairs over the border m. -/
theorem across {p : α → α → Prop} {a m b : Nat} {d d1 d2 : Array α} (hb : b ≤ d.size) (h1 : PermIn a m d d1) (h2 : PermIn m b d1 d2)
    (h : ∀ i j, a ≤ i → i < m → m ≤ j → j < b → p d[i]! d[j]!) : ∀ i j, a ≤ i → i < m → m ≤ j → j < b → p d2[i]! d2[j]! := by
  intro i j hi him hmj hj
  have s1 := h1.1
  rw [h2.2.1 i (.inl him)]
  refine permIn_all d1 d2 m b (fun y => p d1[i]! y) (by omega) h2 (fun j' hj1 hj2 => ?_) j hmj hj
  rw [h1.2.1 j' (.inr hj1)]
  exact permIn_all d d1 a m (fun x => p x d[j']!) (by omega) h1 (fun i' hi1 hi2 => h i' j' hi1 hi2 hj1 hj2) i hi him

/-! ### the merge -/
/-- What the binary search of the merge finds, and what the rotation then makes: two pairs of runs, and all of the first ahead of all of the second. -/
theorem merge_cut (hS : SWO lt) {a m b mid s e : Nat} {d : Array α} (hb : b ≤ d.size) (R : Runs lt tag a m b d) (has : a ≤ s) (hsm : s ≤ m) (hme : m ≤ e) (heb : e ≤ b) (hmid : s + (e - m) = mid)
    (h1 : a < s → e < b → lt d[e]! d[s - 1]! = false) (h2 : s < m → m < e → lt d[e - 1]! d[s]! = true) :
    Runs lt tag a s mid (rotA d s m e) ∧ Runs lt tag mid e b (rotA d s m e) ∧ ∀ i j, a ≤ i → i < mid → mid ≤ j → j < b → Rt lt tag (rotA d s m e)[i]! (rotA d s m e)[j]! := by
  -- what stands where behind the rotation
  have g0 : ∀ i, i < s → (rotA d s m e)[i]! = d[i]! := fun i hi => by
    by_cases hx : i < d.size
    · rw [rotA_get _ _ _ _ _ hx, if_neg (by omega), if_neg (by omega)]
    · omega
  have g1 : ∀ i, s ≤ i → i < mid → (rotA d s m e)[i]! = d[m + (i - s)]! := fun i hi hi2 => by rw [rotA_get _ _ _ _ _ (by omega), if_pos (by omega)]
  have g2 : ∀ i, mid ≤ i → i < e → (rotA d s m e)[i]! = d[i - (e - m)]! := fun i hi hi2 => by rw [rotA_get _ _ _ _ _ (by omega), if_neg (by omega), if_pos (by omega)]
  have g3 : ∀ i, e ≤ i → i < b → (rotA d s m e)[i]! = d[i]! := fun i hi hi2 => by rw [rotA_get _ _ _ _ _ (by omega), if_neg (by omega), if_neg (by omega)]
  -- the left run's first part is ahead of the right run's second, the right run's first part of the left run's second
  have x1 : ∀ i j, a ≤ i → i < s → e ≤ j → j < b → Rt lt tag d[i]! d[j]! := by
    intro i j hi his hej hjb
    have hc : Rt lt tag d[s - 1]! d[e]! := .inr ⟨h1 (by omega) (by omega), R.tags _ _ (by omega) (by omega) (by omega) (by omega)⟩
    have c1 : Rt lt tag d[i]! d[e]! := by
      by_cases e1 : i = s - 1
      · rw [e1]; exact hc
      · exact (R.left i (s - 1) hi (by omega) (by omega)).trans hS hc
    by_cases e2 : j = e
    · rw [e2]; exact c1
    · exact c1.trans hS (R.right e j (by omega) (by omega) hjb)
  have x2 : ∀ i j, m ≤ i → i < e → s ≤ j → j < m → Rt lt tag d[i]! d[j]! := by
    intro i j hi hie hsj hjm
    have hc : Rt lt tag d[e - 1]! d[s]! := .inl (h2 (by omega) (by omega))
    have c1 : Rt lt tag d[i]! d[s]! := by
      by_cases e1 : i = e - 1
      · rw [e1]; exact hc
      · exact (R.right i (e - 1) hi (by omega) (by omega)).trans hS hc
    by_cases e2 : j = s
    · rw [e2]; exact c1
    · exact c1.trans hS (R.left s j has (by omega) hjm)
  refine ⟨⟨?_, ?_, ?_⟩, ⟨?_, ?_, ?_⟩, ?_⟩
  · intro i j hi hij hj
    rw [g0 i (by omega), g0 j (by omega)]
    exact R.left i j hi hij (by omega)
  · intro i j hi hij hj
    rw [g1 i hi (by omega), g1 j (by omega) hj]
    exact R.right _ _ (by omega) (by omega) (by omega)
  · intro i j hi him hmj hj
    rw [g0 i him, g1 j hmj hj]
    exact R.tags _ _ hi (by omega) (by omega) (by omega)
  · intro i j hi hij hj
    rw [g2 i hi (by omega), g2 j (by omega) hj]
    exact R.left _ _ (by omega) (by omega) (by omega)
  · intro i j hi hij hj
    rw [g3 i hi (by omega), g3 j (by omega) hj]
    exact R.right i j (by omega) hij hj
  · intro i j hi him hmj hj
    rw [g2 i hi him, g3 j hmj hj]
    exact R.tags _ _ (by omega) (by omega) (by omega) hj
  · intro i j hi him hmj hj
    by_cases c1 : i < s <;> by_cases c2 : j < e
    · rw [g0 i c1, g2 j hmj c2]
      exact R.left _ _ hi (by omega) (by omega)
    · rw [g0 i c1, g3 j (by omega) hj]
      exact x1 i j hi c1 (by omega) hj
    · rw [g1 i (by omega) him, g2 j hmj c2]
      exact x2 _ _ (by omega) (by omega) (by omega) (by omega)
    · rw [g1 i (by omega) him, g3 j (by omega) hj]
      exact R.right _ _ (by omega) (by omega) hj
/-- .. and when both pairs are merged, all is. -/
theorem merge_done {a mid b : Nat} {d d1 d2 : Array α} (hb : b ≤ d.size) (h1 : PermIn a mid d d1) (h2 : PermIn mid b d1 d2) (s1 : SortedR lt tag a mid d1) (s2 : SortedR lt tag mid b d2)
    (h : ∀ i j, a ≤ i → i < mid → mid ≤ j → j < b → Rt lt tag d[i]! d[j]!) : SortedR lt tag a b d2 :=
  SortedR.join (s1.congr fun p _ hp => h2.2.1 p (.inl hp)) s2 (across hb h1 h2 h)
/-- The right pair's runs are as they were behind the left pair's merge. -/
theorem Runs.behind {a m b lo hi : Nat} {d d' : Array α} (R : Runs lt tag a m b d) (h : PermIn lo hi d d') (hlo : hi ≤ a) (ham : a ≤ m) : Runs lt tag a m b d' := by
  have g : ∀ i, a ≤ i → d'[i]! = d[i]! := fun i hi => h.2.1 i (.inr (by omega))
  exact ⟨R.left.congr fun p hp _ => g p hp, R.right.congr fun p hp _ => g p (by omega), fun i j hi him hmj hj => by rw [g i hi, g j (by omega)]; exact R.tags i j hi him hmj hj⟩
/-- Two runs that stand right side by side: sorted. -/
theorem Runs.whole (hS : SWO lt) {a m b : Nat} {d : Array α} (R : Runs lt tag a m b d) (h : a < m → m < b → lt d[m]! d[m - 1]! = false) : SortedR lt tag a b d :=
  SortedR.join_at hS R.left R.right fun h1 h2 => .inr ⟨h h1 h2, R.tags _ _ (by omega) (by omega) (Nat.le_refl _) h2⟩
/-- One element on the left, carried up to its place. -/
theorem merge_one_left (hS : SWO lt) {a b e : Nat} {d : Array α} (hb : b ≤ d.size) (R : Runs lt tag a (a + 1) b d) (hme : a + 1 ≤ e) (heb : e ≤ b)
    (h1 : e < b → lt d[e]! d[a]! = false) (h2 : a + 1 < e → lt d[e - 1]! d[a]! = true) : SortedR lt tag a b (rotA d a (a + 1) e) := by
  obtain ⟨r1, r2, r3⟩ := merge_cut hS (mid := e - 1) hb R (Nat.le_refl _) (by omega) hme heb (by omega) (fun h => absurd h (by omega)) (fun _ h => h2 h)
  refine SortedR.join r1.right (r2.whole hS fun _ h => ?_) r3
  rw [rotA_get _ _ _ _ _ (by omega), if_neg (by omega), if_neg (by omega), rotA_get _ _ _ _ _ (by omega), if_neg (by omega), if_pos (by omega)]
  have := h1 h
  rwa [show e - 1 - (e - (a + 1)) = a by omega]
/-- One element on the right, carried down to its place. -/
theorem merge_one_right (hS : SWO lt) {a m s : Nat} {d : Array α} (hb : m + 1 ≤ d.size) (R : Runs lt tag a m (m + 1) d) (has : a ≤ s) (hsm : s ≤ m)
    (h1 : a < s → lt d[m]! d[s - 1]! = false) (h2 : s < m → lt d[m]! d[s]! = true) : SortedR lt tag a (m + 1) (rotA d s m (m + 1)) := by
  obtain ⟨r1, r2, r3⟩ := merge_cut hS (mid := s + 1) hb R has hsm (by omega) (Nat.le_refl _) (by omega) (fun _ h => absurd h (by omega)) (fun h _ => h2 h)
  refine SortedR.join (r1.whole hS fun h _ => ?_) r2.left r3
  rw [rotA_get _ _ _ _ _ (by omega), if_pos (by omega), rotA_get _ _ _ _ _ (by omega), if_neg (by omega), if_neg (by omega), show m + (s - s) = m by omega]
  exact h1 h
theorem rotA_none (d : Array α) (a b : Nat) : rotA d a b b = d :=
  ext_at (size_rotA _ _ _ _) fun t ht => by
    rw [size_rotA] at ht
    rw [rotA_get _ _ _ _ _ ht, if_neg (by omega)]
    by_cases h : a + (b - b) ≤ t ∧ t < b
    · rw [if_pos h]; congr 1; omega
    · rw [if_neg h]
theorem rotA_none' (d : Array α) (a b : Nat) : rotA d a a b = d :=
  ext_at (size_rotA _ _ _ _) fun t ht => by
    rw [size_rotA] at ht
    rw [rotA_get _ _ _ _ _ ht]
    by_cases h : a ≤ t ∧ t < a + (b - a)
    · rw [if_pos h]; congr 1; omega
    · rw [if_neg h, if_neg (by omega)]
theorem rotA_up (d : Array α) (a e : Nat) (hae : a < e) (he : e < d.size) : swp (rotA d a (a + 1) e) (e - 1) e = rotA d a (a + 1) (e + 1) := by
  refine ext_at (by simp only [size_swp, size_rotA]) fun t ht => ?_
  rw [size_swp, size_rotA] at ht
  rw [swp_get _ (by rw [size_rotA]; omega) (by rw [size_rotA]; omega)]
  by_cases h1 : t = e
  · rw [if_pos h1, rotA_get _ _ _ _ _ (by omega), if_neg (by omega), if_pos (by omega), rotA_get _ _ _ _ _ ht, if_neg (by omega), if_pos (by omega)]
    congr 1; omega
  · rw [if_neg h1]
    by_cases h2 : t = e - 1
    · rw [if_pos h2, rotA_get _ _ _ _ _ (by omega), if_neg (by omega), if_neg (by omega), rotA_get _ _ _ _ _ ht, if_pos (by omega)]
      congr 1; omega
    · rw [if_neg h2, rotA_get _ _ _ _ _ ht, rotA_get _ _ _ _ _ ht]
      by_cases h3 : a ≤ t ∧ t < e - 1
      · rw [if_pos (by omega), if_pos (by omega)]
      · rw [if_neg (by omega), if_neg (by omega), if_neg (by omega), if_neg (by omega)]
theorem rotA_down (d : Array α) (s m : Nat) (h0 : 0 < s) (hsm : s ≤ m) (hm : m < d.size) : swp (rotA d s m (m + 1)) s (s - 1) = rotA d (s - 1) m (m + 1) := by
  refine ext_at (by simp only [size_swp, size_rotA]) fun t ht => ?_
  rw [size_swp, size_rotA] at ht
  rw [swp_get _ (by rw [size_rotA]; omega) (by rw [size_rotA]; omega)]
  by_cases h1 : t = s - 1
  · rw [if_pos h1, rotA_get _ _ _ _ _ (by omega), if_pos (by omega), rotA_get _ _ _ _ _ ht, if_pos (by omega)]
    congr 1; omega
  · rw [if_neg h1]
    by_cases h2 : t = s
    · rw [if_pos h2, rotA_get _ _ _ _ _ (by omega), if_neg (by omega), if_neg (by omega), rotA_get _ _ _ _ _ ht, if_neg (by omega), if_pos (by omega)]
      congr 1; omega
    · rw [if_neg h2, rotA_get _ _ _ _ _ ht, rotA_get _ _ _ _ _ ht]
      by_cases h3 : s < t ∧ t < m + 1
      · rw [if_neg (by omega), if_pos (by omega), if_neg (by omega), if_pos (by omega)]
      · rw [if_neg (by omega), if_neg (by omega), if_neg (by omega), if_neg (by omega)]

/-! ### the insertion sort -/
/-- A run whose tags rise. -/
def TagsIn (tag : α → Nat) (a b : Nat) (d : Array α) : Prop := ∀ i j, a ≤ i → i < j → j < b → tag d[i]! < tag d[j]!
/-- From j down: what stands at j has a greater tag than all ahead of it; it comes to stand among the sorted ones. -/
theorem insInner_R (hS : SWO lt) (a i : Nat) : ∀ (j : Nat) (d : Array α), a ≤ j → j ≤ i → i < d.size → SortedR lt tag a j d → SortedR lt tag (j + 1) (i + 1) d → (∀ x y, a ≤ x → x < j → j < y → y ≤ i → Rt lt tag d[x]! d[y]!) →
    (∀ y, j < y → y ≤ i → Rt lt tag d[j]! d[y]!) → (∀ x, a ≤ x → x < j → tag d[x]! < tag d[j]!) → SortedR lt tag a (i + 1) (insInner lt a j d) ∧ PermIn a (i + 1) d (insInner lt a j d) := by
  intro j
  induction j with
  | zero =>
    intro d haj hji hid h1 h2 h3 h4 h5
    have : insInner lt a 0 d = d := rfl
    rw [this]
    refine ⟨?_, permIn_refl _ _ _⟩
    refine SortedR.join (m := 1) (SortedR.empty (by omega)) h2 fun x y hx hx1 hy hyi => ?_
    obtain rfl : x = 0 := by omega
    exact h4 y (by omega) (by omega)
  | succ j ih =>
    intro d haj hji hid h1 h2 h3 h4 h5
    by_cases hgo : a < j + 1 ∧ lt d[j + 1]! d[j]! = true
    · obtain ⟨hg1, hg2⟩ := hgo
      have e := insInner_go lt a (j + 1) d hg1 (by simpa using hg2)
      simp only [Nat.add_sub_cancel] at e
      rw [e]
      have hsz : (swp d (j + 1) j).size = d.size := size_swp _ _ _
      have gl : (swp d (j + 1) j)[j]! = d[j + 1]! := by rw [swp_get _ (by omega) (by omega), if_pos rfl]
      have gr : (swp d (j + 1) j)[j + 1]! = d[j]! := by rw [swp_get _ (by omega) (by omega), if_neg (by omega), if_pos rfl]
      have go : ∀ k, k ≠ j → k ≠ j + 1 → (swp d (j + 1) j)[k]! = d[k]! := fun k hk1 hk2 => swp_other _ _ _ _ hk2 hk1
      have hR : Rt lt tag d[j + 1]! d[j]! := .inl hg2
      have q1 : SortedR lt tag a j (swp d (j + 1) j) := (h1.sub (Nat.le_refl _) (by omega)).congr fun p _ hp => go p (by omega) (by omega)
      have q2 : SortedR lt tag (j + 1) (i + 1) (swp d (j + 1) j) := by
        refine SortedR.join (m := j + 2) (SortedR.empty (by omega)) (h2.congr fun p hp _ => go p (by omega) (by omega)) fun x y hx hx1 hy hyi => ?_
        obtain rfl : x = j + 1 := by omega
        rw [gr, go y (by omega) (by omega)]
        exact h3 j y (by omega) (by omega) (by omega) (by omega)
      have q3 : ∀ x y, a ≤ x → x < j → j < y → y ≤ i → Rt lt tag (swp d (j + 1) j)[x]! (swp d (j + 1) j)[y]! := by
        intro x y hx hxj hy hyi
        rw [go x (by omega) (by omega)]
        by_cases e1 : y = j + 1
        · subst e1
          rw [gr]
          exact h1 x j hx hxj (by omega)
        · rw [go y (by omega) e1]
          exact h3 x y hx (by omega) (by omega) hyi
      have q4 : ∀ y, j < y → y ≤ i → Rt lt tag (swp d (j + 1) j)[j]! (swp d (j + 1) j)[y]! := by
        intro y hy hyi
        rw [gl]
        by_cases e1 : y = j + 1
        · subst e1
          rw [gr]
          exact hR
        · rw [go y (by omega) e1]
          exact h4 y (by omega) hyi
      have q5 : ∀ x, a ≤ x → x < j → tag (swp d (j + 1) j)[x]! < tag (swp d (j + 1) j)[j]! := by
        intro x hx hxj
        rw [gl, go x (by omega) (by omega)]
        exact h5 x hx (by omega)
      obtain ⟨r1, r2⟩ := ih (swp d (j + 1) j) (by omega) (by omega) (by omega) q1 q2 q3 q4 q5
      exact ⟨r1, permIn_trans _ _ _ _ _ (swp_permIn _ _ _ _ _ (by omega) (by omega) (by omega) (by omega) (by omega)) r2⟩
    · have hst : j + 1 ≤ a ∨ lt d[j + 1]! d[j + 1 - 1]! = false := by
        simp only [Nat.add_sub_cancel]
        by_cases hl : lt d[j + 1]! d[j]! = true
        · exact .inl (by rcases Nat.lt_or_ge a (j + 1) with h | h; exact absurd ⟨h, hl⟩ hgo; exact h)
        · exact .inr (by simpa using hl)
      rw [insInner_stop lt a (j + 1) d hst]
      refine ⟨?_, permIn_refl _ _ _⟩
      have hm : SortedR lt tag a (j + 2) d := by
        refine SortedR.join_at hS (m := j + 1) h1 (SortedR.empty (by omega)) fun hx _ => ?_
        rcases hst with h | h
        · omega
        · exact .inr ⟨h, h5 _ (by omega) (by omega)⟩
      refine SortedR.join (m := j + 2) hm h2 fun x y hx hx1 hy hyi => ?_
      by_cases e1 : x = j + 1
      · subst e1; exact h4 y (by omega) (by omega)
      · exact h3 x y hx (by omega) (by omega) (by omega)
theorem insOuter_R (hS : SWO lt) (a b : Nat) : ∀ (r i : Nat) (d : Array α), b - i ≤ r → a < i → i ≤ b → b ≤ d.size → SortedR lt tag a i d → TagsIn tag i b d → (∀ x y, a ≤ x → x < i → i ≤ y → y < b → tag d[x]! < tag d[y]!) →
    SortedR lt tag a b (insOuter lt a b i d) ∧ PermIn a b d (insOuter lt a b i d) := by
  intro r
  induction r with
  | zero =>
    intro i d hr hai hib hbd h1 h2 h3
    obtain rfl : i = b := by omega
    rw [insOuter_stop _ _ _ _ _ (by omega)]
    exact ⟨h1, permIn_refl _ _ _⟩
  | succ r ih =>
    intro i d hr hai hib hbd h1 h2 h3
    by_cases hlt : i < b
    · rw [insOuter_go _ _ _ _ _ hlt]
      obtain ⟨s1, p1⟩ := insInner_R (lt := lt) (tag := tag) hS a i i d (by omega) (Nat.le_refl _) (by omega) h1 (SortedR.empty (by omega)) (fun x y _ _ h h' => by omega) (fun y h h' => by omega) (fun x hx hxi => h3 x i hx hxi (Nat.le_refl _) hlt)
      have g : ∀ y, i < y → (insInner lt a i d)[y]! = d[y]! := fun y hy => p1.2.1 y (.inr (by omega))
      obtain ⟨s2, p2⟩ := ih (i + 1) (insInner lt a i d) (by omega) (by omega) (by omega) (by rw [p1.1]; exact hbd) s1 (fun x y hx hxy hy => by rw [g x (by omega), g y (by omega)]; exact h2 x y (by omega) hxy hy) (fun x y hx hxi hy hyb => by
        rw [g y (by omega)]
        refine permIn_all d _ a (i + 1) (fun z => tag z < tag d[y]!) (by omega) p1 (fun z hz hzi => ?_) x hx hxi
        by_cases e : z = i
        · subst e; exact h2 z y (Nat.le_refl _) (by omega) hyb
        · exact h3 z y hz (by omega) (by omega) hyb)
      exact ⟨s2, permIn_trans _ _ _ _ _ (permIn_mono _ _ _ _ _ _ (Nat.le_refl _) (by omega) hbd p1) p2⟩
    · obtain rfl : i = b := by omega
      rw [insOuter_stop _ _ _ _ _ (by omega)]
      exact ⟨h1, permIn_refl _ _ _⟩
theorem insertionSort_R (hS : SWO lt) (a b : Nat) (d : Array α) (hab : a ≤ b) (hb : b ≤ d.size) (ht : TagsIn tag a b d) : SortedR lt tag a b (insertionSort lt d a b) ∧ PermIn a b d (insertionSort lt d a b) := by
  unfold insertionSort
  by_cases h : a + 1 ≤ b
  · exact insOuter_R hS a b (b - (a + 1)) (a + 1) d (Nat.le_refl _) (by omega) h hb (SortedR.empty (by omega)) (fun i j hi hij hj => ht i j (by omega) hij hj) (fun x y hx hx1 hy hyb => ht x y hx (by omega) hyb)
  · rw [insOuter_stop _ _ _ _ _ (by omega)]
    exact ⟨SortedR.empty (by omega), permIn_refl _ _ _⟩
end
end Go.Proofs.YtajaijidecomdaaGreatDoor
