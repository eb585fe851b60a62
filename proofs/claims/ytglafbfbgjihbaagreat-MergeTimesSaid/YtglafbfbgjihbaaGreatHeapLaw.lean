/- Plain laws of the binary heap of items: a step up, a step down. No program. -/
import Derived.Test.YtglafbfbgjihbaaGreatQueue
namespace Go.Proofs.YtglafbfbgjihbaaGreat

theorem less_irrefl (x : It) : itLess x x = false := by simp [itLess]
theorem less_asymm {x y : It} (h : itLess x y = true) : itLess y x = false := by
  simp only [itLess, decide_eq_true_eq, decide_eq_false_iff_not] at *; omega
theorem less_trans {x y z : It} (h : itLess x y = true) (g : itLess y z = true) : itLess x z = true := by
  simp only [itLess, decide_eq_true_eq] at *; omega
theorem nless_trans {x y z : It} (h : itLess x y = false) (g : itLess y z = false) : itLess x z = false := by
  simp only [itLess, decide_eq_false_iff_not] at *; omega
theorem nless_less {x y z : It} (h : itLess z y = false) (g : itLess x y = true) : itLess z x = false := by
  simp only [itLess, decide_eq_false_iff_not, decide_eq_true_eq] at *; omega
theorem swapL_get {l : List It} {i j : Nat} {x y : It} (hi : i < l.length) (hj : j < l.length) (k : Nat) : (swapL l i j x y)[k]? = if k = j then some x else if k = i then some y else l[k]? := by
  unfold swapL
  rw [List.getElem?_set, List.getElem?_set]
  by_cases h1 : j = k
  · subst h1; simp [hj]
  · rw [if_neg h1, if_neg (show ¬ k = j from fun h => h1 h.symm)]
    by_cases h2 : i = k
    · subst h2; simp [hi]
    · rw [if_neg h2, if_neg (show ¬ k = i from fun h => h2 h.symm)]
theorem swapL_length (l : List It) (i j : Nat) (x y : It) : (swapL l i j x y).length = l.length := by simp [swapL]
theorem swapL_perm {l : List It} {i j : Nat} {x y : It} (hi : l[i]? = some x) (hj : l[j]? = some y) : (swapL l i j x y).Perm l := by
  obtain ⟨h1, e1⟩ := List.getElem?_eq_some_iff.1 hi
  obtain ⟨h2, e2⟩ := List.getElem?_eq_some_iff.1 hj
  unfold swapL
  rw [← e1, ← e2]
  exact List.set_set_perm h1 h2
/-- Each but place j is not below its parent. -/
def HeapAt (l : List It) (j : Nat) : Prop := ∀ i x y, 1 ≤ i → i ≠ j → l[i]? = some x → l[(i - 1) / 2]? = some y → itLess x y = false
def HeapOK (l : List It) : Prop := ∀ i x y, 1 ≤ i → l[i]? = some x → l[(i - 1) / 2]? = some y → itLess x y = false
/-- While one goes up: it may lie wrong at j alone, and j's children aren't below j's parent. -/
def UpInv (l : List It) (j : Nat) : Prop := HeapAt l j ∧ ∀ i x y, 1 ≤ i → (i - 1) / 2 = j → 1 ≤ j → l[i]? = some x → l[(j - 1) / 2]? = some y → itLess x y = false
theorem UpInv.zero {l : List It} (h : UpInv l 0) : HeapOK l := fun i x y hi hx hy => h.1 i x y hi (by omega) hx hy
theorem UpInv.stay {l : List It} {j : Nat} {x y : It} (h : UpInv l j) (hx : l[j]? = some x) (hy : l[(j - 1) / 2]? = some y) (hl : itLess x y = false) : HeapOK l := fun i a b hi ha hb => by
  by_cases e : i = j
  · subst e
    rw [hx] at ha; rw [hy] at hb
    injection ha with ha; injection hb with hb
    rw [← ha, ← hb]; exact hl
  · exact h.1 i a b hi e ha hb
theorem UpInv.step {l : List It} {j : Nat} {x y : It} (h : UpInv l j) (hj : 1 ≤ j) (hx : l[j]? = some x) (hy : l[(j - 1) / 2]? = some y) (hl : itLess x y = true) : UpInv (swapL l ((j - 1) / 2) j y x) ((j - 1) / 2) := by
  have hjl := (List.getElem?_eq_some_iff.1 hx).1
  have hpl := (List.getElem?_eq_some_iff.1 hy).1
  obtain ⟨p, hp⟩ : ∃ p, (j - 1) / 2 = p := ⟨_, rfl⟩
  have hpj : p < j := by omega
  rw [hp] at hy hpl ⊢
  have G := fun k => swapL_get (x := y) (y := x) hpl hjl k
  constructor
  · intro i a b hi hip ha hb
    rw [G] at ha hb
    rw [if_neg hip] at ha
    by_cases hij : i = j
    · rw [if_pos hij] at ha
      rw [if_neg (by omega), if_pos (by rw [hij]; exact hp)] at hb
      injection ha with ha; injection hb with hb
      rw [← ha, ← hb]; exact less_asymm hl
    · rw [if_neg hij] at ha
      by_cases h1 : (i - 1) / 2 = j
      · rw [if_pos h1] at hb
        injection hb with hb
        rw [← hb]
        exact h.2 i a y hi h1 hj ha (by rw [hp]; exact hy)
      · rw [if_neg h1] at hb
        by_cases h2 : (i - 1) / 2 = p
        · rw [if_pos h2] at hb
          injection hb with hb
          rw [← hb]
          exact nless_less (h.1 i a y hi hij ha (by rw [h2]; exact hy)) hl
        · rw [if_neg h2] at hb
          exact h.1 i a b hi hij ha hb
  · intro i a b hi hip hp1 ha hb
    rw [G] at ha hb
    rw [if_neg (by omega), if_neg (by omega)] at hb
    have hyb := h.1 p y b hp1 (by omega) hy hb
    by_cases hij : i = j
    · rw [if_pos hij] at ha
      injection ha with ha
      rw [← ha]; exact hyb
    · rw [if_neg hij, if_neg (by omega)] at ha
      exact nless_trans (h.1 i a y hi hij ha (by rw [hip]; exact hy)) hyb
theorem UpInv.push {l : List It} (h : HeapOK l) (x : It) : UpInv (l ++ [x]) l.length := by
  have hget : ∀ k a, k ≠ l.length → (l ++ [x])[k]? = some a → l[k]? = some a := fun k a hk ha => by
    have := (List.getElem?_eq_some_iff.1 ha).1
    rw [List.length_append, List.length_singleton] at this
    rwa [List.getElem?_append_left (by omega)] at ha
  constructor
  · intro i a b hi hne ha hb
    have h1 := hget i a hne ha
    have h2 := (List.getElem?_eq_some_iff.1 h1).1
    exact h i a b hi h1 (hget _ b (by omega) hb)
  · intro i a b hi he hj ha hb
    have := (List.getElem?_eq_some_iff.1 ha).1
    rw [List.length_append, List.length_singleton] at this
    omega
/-- The top is below none. -/
theorem HeapOK.top {l : List It} (h : HeapOK l) {x : It} (h0 : l[0]? = some x) : ∀ (i : Nat) y, l[i]? = some y → itLess y x = false := by
  intro i
  induction i using Nat.strongRecOn with
  | ind i ih =>
    intro y hy
    by_cases hi : i = 0
    · subst hi
      rw [h0] at hy; injection hy with hy
      rw [hy]; exact less_irrefl _
    · have hlt := (List.getElem?_eq_some_iff.1 hy).1
      have hp : l[(i - 1) / 2]? = some (l[(i - 1) / 2]'(by omega)) := List.getElem?_eq_getElem (by omega)
      exact nless_trans (h i y _ (by omega) hy hp) (ih _ (by omega) _ hp)
/-- Of the first n each is not below its parent. -/
def HeapTo (l : List It) (n : Nat) : Prop := ∀ (c : Nat) x y, 1 ≤ c → c < n → l[c]? = some x → l[(c - 1) / 2]? = some y → itLess x y = false
/-- While one goes down: it may lie wrong at i's children alone, and these aren't below i's parent. -/
def DownInv (l : List It) (n i : Nat) : Prop := (∀ (c : Nat) x y, 1 ≤ c → c < n → (c - 1) / 2 ≠ i → l[c]? = some x → l[(c - 1) / 2]? = some y → itLess x y = false) ∧
  ∀ (c : Nat) x y, 1 ≤ c → c < n → (c - 1) / 2 = i → 1 ≤ i → l[c]? = some x → l[(i - 1) / 2]? = some y → itLess x y = false
theorem HeapTo.take {l : List It} {n : Nat} (h : HeapTo l n) : HeapOK (l.take n) := fun c x y hc hx hy => by
  have h1 := (List.getElem?_eq_some_iff.1 hx).1
  rw [List.length_take] at h1
  rw [List.getElem?_take_of_lt (by omega)] at hx hy
  exact h c x y hc (by omega) hx hy
theorem DownInv.none {l : List It} {n i : Nat} (h : DownInv l n i) (hn : n ≤ 2 * i + 1) : HeapTo l n := fun c x y hc hcn hx hy => h.1 c x y hc hcn (by omega) hx hy
/-- j is i's least child. -/
def Least (l : List It) (n i j : Nat) : Prop := (j - 1) / 2 = i ∧ 1 ≤ j ∧ j < n ∧ ∀ (c : Nat) x y, 1 ≤ c → c < n → (c - 1) / 2 = i → l[c]? = some x → l[j]? = some y → itLess x y = false
theorem DownInv.stay {l : List It} {n i j : Nat} {x y : It} (h : DownInv l n i) (hL : Least l n i j) (hy : l[j]? = some y) (hx : l[i]? = some x) (hl : itLess y x = false) : HeapTo l n := fun c a b hc hcn ha hb => by
  by_cases e : (c - 1) / 2 = i
  · rw [e, hx] at hb
    injection hb with hb
    rw [← hb]
    exact nless_trans (hL.2.2.2 c a y hc hcn e ha hy) hl
  · exact h.1 c a b hc hcn e ha hb
theorem DownInv.step {l : List It} {n i j : Nat} {x y : It} (h : DownInv l n i) (hL : Least l n i j) (hx : l[i]? = some x) (hy : l[j]? = some y) (hl : itLess y x = true) : DownInv (swapL l i j x y) n j := by
  have hil := (List.getElem?_eq_some_iff.1 hx).1
  have hjl := (List.getElem?_eq_some_iff.1 hy).1
  obtain ⟨hp, hj1, hjn, hmin⟩ := hL
  have hij : i < j := by omega
  have G := fun k => swapL_get (x := x) (y := y) hil hjl k
  constructor
  · intro c a b hc hcn hcj ha hb
    rw [G] at ha hb
    rw [if_neg hcj] at hb
    by_cases e1 : c = j
    · rw [if_pos e1] at ha
      rw [if_pos (by rw [e1]; exact hp)] at hb
      injection ha with ha; injection hb with hb
      rw [← ha, ← hb]; exact less_asymm hl
    · rw [if_neg e1] at ha
      by_cases e2 : (c - 1) / 2 = i
      · rw [if_pos e2] at hb
        rw [if_neg (by omega)] at ha
        injection hb with hb
        rw [← hb]
        exact hmin c a y hc hcn e2 ha hy
      · rw [if_neg e2] at hb
        by_cases e3 : c = i
        · rw [if_pos e3] at ha
          injection ha with ha
          rw [← ha]
          exact h.2 j y b hj1 hjn hp (by omega) hy (by rw [← e3]; exact hb)
        · rw [if_neg e3] at ha
          exact h.1 c a b hc hcn e2 ha hb
  · intro c a b hc hcn hcj hj ha hb
    rw [G] at ha hb
    rw [if_neg (by omega), if_neg (by omega)] at ha
    rw [hp, if_neg (by omega), if_pos rfl] at hb
    injection hb with hb
    rw [← hb]
    exact h.1 c a y hc hcn (by omega) ha (by rw [hcj]; exact hy)
/-- The last one has been laid on top. -/
theorem DownInv.start {l : List It} (h : HeapOK l) {n : Nat} (hn : n + 1 = l.length) {x z : It} (hx : l[0]? = some x) (hz : l[n]? = some z) : DownInv (swapL l 0 n x z) n 0 := by
  have h0l := (List.getElem?_eq_some_iff.1 hx).1
  have hnl := (List.getElem?_eq_some_iff.1 hz).1
  have G := fun k => swapL_get (x := x) (y := z) h0l hnl k
  constructor
  · intro c a b hc hcn h1 ha hb
    rw [G] at ha hb
    rw [if_neg (by omega), if_neg (by omega)] at ha
    rw [if_neg (by omega), if_neg (by omega)] at hb
    exact h c a b hc ha hb
  · intro c a b hc hcn h1 h2
    omega
end Go.Proofs.YtglafbfbgjihbaaGreat
