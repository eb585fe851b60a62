/- The plain law of compact.Plan: what its contract says is one list, the one that counting gives. -/
import Derived.Test.YtglafbfbgjihbaaPlan
namespace Go.Proofs.Ytglafbfbgjihbaa

instance (l : List Mt) (i k : Nat) : Decidable (Ro l i k) := by unfold Ro; exact inferInstance
theorem Ro.irrefl (l : List Mt) (i : Nat) : ¬ Ro l i i := by unfold Ro; omega
theorem Ro.asymm {l : List Mt} {i k : Nat} (h : Ro l i k) : ¬ Ro l k i := by unfold Ro at *; omega
/-- How many of zs stand ahead of i. -/
def aheadOf (l : List Mt) (zs : List Nat) (i : Nat) : Nat := (zs.filter fun k => decide (Ro l k i)).length
theorem filter_take (pred : Nat → Bool) : ∀ (s : List Nat) (q : Nat), (∀ p (h : p < s.length), pred s[p] = decide (p < q)) → s.filter pred = s.take q
  | [], q, _ => by simp
  | x :: s, 0, h => by
    rw [List.take_zero, List.filter_eq_nil_iff]
    intro y hy
    obtain ⟨p, hp, rfl⟩ := List.getElem_of_mem hy
    rw [h p hp]; simp
  | x :: s, q + 1, h => by
    have h0 := h 0 (by simp)
    have hr := filter_take pred s q (fun p hp => by have := h (p + 1) (by simpa using hp); simpa using this)
    simp only [List.getElem_cons_zero, Nat.zero_lt_succ, decide_true] at h0
    rw [List.filter_cons, if_pos h0, List.take_succ_cons, hr]
theorem ahead_sorted {l : List Mt} {s : List Nat} (hs : s.Pairwise (Ro l)) (p : Nat) (h : p < s.length) : aheadOf l s s[p] = p := by
  unfold aheadOf
  rw [filter_take _ s p (fun q hq => ?_), List.length_take]
  · omega
  · rw [List.pairwise_iff_getElem] at hs
    rcases Nat.lt_trichotomy q p with e | e | e
    · rw [decide_eq_true (hs q p hq h e), decide_eq_true e]
    · subst e
      rw [decide_eq_false (Ro.irrefl l _), decide_eq_false (by omega)]
    · rw [decide_eq_false (Ro.asymm (hs p q h hq e)), decide_eq_false (by omega)]
theorem pick_eq {l : List Mt} {s zs : List Nat} (hp : s.Perm zs) (hs : s.Pairwise (Ro l)) (hz : zs.Pairwise (· < ·)) : (ints (s.take 3)).mergeSort (fun x y => decide (x ≤ y)) = ints (zs.filter fun i => decide (aheadOf l zs i < 3)) := by
  have ha : ∀ i, aheadOf l zs i = aheadOf l s i := fun i => ((hp.filter _).length_eq).symm
  have h1 : (s.take 3).Perm (zs.filter fun i => decide (aheadOf l zs i < 3)) := by
    rw [← filter_take (fun i => decide (aheadOf l zs i < 3)) s 3 (fun p h => by rw [ha, ahead_sorted hs p h])]
    exact hp.filter _
  have tr : ∀ a b c : Int, decide (a ≤ b) = true → decide (b ≤ c) = true → decide (a ≤ c) = true := fun a b c h1 h2 => by have h1 := of_decide_eq_true h1; have h2 := of_decide_eq_true h2; exact decide_eq_true (Int.le_trans h1 h2)
  have to : ∀ a b : Int, (decide (a ≤ b) || decide (b ≤ a)) = true := fun a b => by rcases Int.le_total a b with h | h <;> simp [h]
  refine List.Perm.eq_of_pairwise (le := fun a b : Int => decide (a ≤ b) = true) (fun a b _ _ h1 h2 => Int.le_antisymm (of_decide_eq_true h1) (of_decide_eq_true h2)) (List.pairwise_mergeSort tr to _) ?_ ((List.mergeSort_perm _ _).trans (h1.map _))
  unfold ints
  rw [List.pairwise_map]
  refine (List.Pairwise.filter _ hz).imp (fun {a b} h => decide_eq_true ?_)
  show (a : Int) ≤ (b : Int)
  omega
def manyOf (l : List Mt) (lv : Int) : Nat := (idxs l l.length lv).length
def pickOf (l : List Mt) (lv : Int) : List Nat := (idxs l l.length lv).filter fun i => decide (aheadOf l (idxs l l.length lv) i < 3)
theorem PlanIs.cases {l : List Mt} {p : List Int} (h : PlanIs l p) : (p = [] ∧ ∀ lv, manyOf l lv < 3) ∨ ∃ lv, (∀ x, x < lv → manyOf l x < 3) ∧ 3 ≤ manyOf l lv ∧ p = ints (pickOf l lv) := by
  rcases h with h | ⟨lv, s, h1, h2, h3, h4, h5⟩
  · exact .inl h
  · exact .inr ⟨lv, h1, h2, by rw [h5, pick_eq h3 h4 (idxs_rise _ _ _)]; rfl⟩
/-- Three are picked. -/
theorem pickOf_length {l : List Mt} {lv : Int} (h : 3 ≤ manyOf l lv) : (∃ s : List Nat, s.Perm (idxs l l.length lv) ∧ s.Pairwise (Ro l)) → (pickOf l lv).length = 3 := by
  rintro ⟨s, hp, hs⟩
  have h1 := congrArg List.length (pick_eq hp hs (idxs_rise l l.length lv))
  rw [List.length_mergeSort] at h1
  have h2 : (ints (s.take 3)).length = 3 := by
    have := hp.length_eq
    unfold manyOf at h
    simp [ints]; omega
  rw [h2] at h1
  simpa [ints, pickOf] using h1.symm
theorem PlanIs.three {l : List Mt} {p : List Int} (h : PlanIs l p) : (p = [] ∧ ∀ lv, manyOf l lv < 3) ∨ ∃ (lv : Int) (i j k : Nat), (∀ x, x < lv → manyOf l x < 3) ∧ p = [(i : Int), (j : Int), (k : Int)] ∧ i < j ∧ j < k ∧ k < l.length ∧ l[i]?.map (·.level) = some lv ∧ l[j]?.map (·.level) = some lv ∧ l[k]?.map (·.level) = some lv := by
  rcases h with h | ⟨lv, s, h1, h2, h3, h4, h5⟩
  · exact .inl h
  · have hp := pick_eq h3 h4 (idxs_rise _ _ _)
    have hl := pickOf_length (l := l) (lv := lv) h2 ⟨s, h3, h4⟩
    have hr : (pickOf l lv).Pairwise (· < ·) := List.Pairwise.filter _ (idxs_rise _ _ _)
    have hm : ∀ i ∈ pickOf l lv, i < l.length ∧ l[i]?.map (·.level) = some lv := fun i hi => by
      have h := (List.mem_filter.1 hi).1
      exact ⟨idxs_lt _ _ _ i h, by simpa using (List.mem_filter.1 h).2⟩
    have e : p = ints (pickOf l lv) := by rw [h5, hp]; rfl
    match hq : pickOf l lv, hl with
    | [i, j, k], _ =>
      rw [hq] at hr hm e
      simp only [List.pairwise_cons, List.mem_cons, List.not_mem_nil, or_false] at hr
      exact .inr ⟨lv, i, j, k, h1, by rw [e]; rfl, hr.1 j (.inl rfl), hr.2.1 k rfl, (hm k (by simp)).1, (hm i (by simp)).2, (hm j (by simp)).2, (hm k (by simp)).2⟩
end Go.Proofs.Ytglafbfbgjihbaa
