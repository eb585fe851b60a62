/- Plain laws for the walk of the document's Intervals: lengths, bounds, the state of the sweep. No program. -/
import Derived.Test.YtglafbfbgjihbaaGreatRefIv
namespace Go.Proofs.YtglafbfbgjihbaaGreat

theorem sweep_len : ∀ (o : List (Int × Int)) (st : (Int × Int) × List (Int × Int)), (o.foldl sweep st).2.length ≤ st.2.length + o.length
  | [], st => by simp
  | y :: o, st => by
    rw [List.foldl_cons]
    have h := sweep_len o (sweep st y)
    have h2 : (sweep st y).2.length ≤ st.2.length + 1 := by
      unfold sweep
      split
      · simp
      · simp
    rw [List.length_cons]
    omega
theorem laid_len (x : Int × Int) (r : List (Int × Int)) : (laid x r).length = r.length + 1 := by
  unfold laid
  have h := congrArg List.length (List.takeWhile_append_dropWhile (p := fun z : Int × Int => decide (z.1 < x.1)) (l := r))
  rw [List.length_append] at h
  rw [List.length_append, List.length_cons]
  omega
theorem refIv_len (o : List (Int × Int)) (x : Int × Int) : (refIv o x).length ≤ o.length + 1 := by
  unfold refIv
  split
  · omega
  · have h := sweep_len o (x, [])
    simp only [laid_len]
    simp only [List.length_nil] at h
    omega
theorem refIvs_length (l : List (Int × Int)) : (l.foldl refIv []).length ≤ l.length := by
  suffices H : ∀ (l o : List (Int × Int)), (l.foldl refIv o).length ≤ o.length + l.length by simpa using H l []
  intro l
  induction l with
  | nil => intro o; simp
  | cons x l ih =>
    intro o
    have h1 := ih (refIv o x)
    have h2 := refIv_len o x
    simp only [List.foldl_cons, List.length_cons]
    omega
/-- An interval whose ends an int64 holds. -/
def Fits (x : Int × Int) : Prop := -9223372036854775808 ≤ x.1 ∧ x.1 ≤ 9223372036854775807 ∧ -9223372036854775808 ≤ x.2 ∧ x.2 ≤ 9223372036854775807
theorem cov_fits {l : List (Int × Int)} (h : ∀ x ∈ l, Fits x) {t : Int} (ht : Cov l t) : -9223372036854775808 ≤ t ∧ t ≤ 9223372036854775807 := by
  obtain ⟨x, hx, h1, h2⟩ := ht
  have := h x hx
  unfold Fits at this
  omega
theorem refIvs_fits {l : List (Int × Int)} (h : ∀ x ∈ l, Fits x) : ∀ x ∈ l.foldl refIv [], Fits x := by
  intro x hx
  obtain ⟨h1, h2⟩ := refIvs_law l
  have hne := h1.1 x hx
  have c1 := cov_fits h ((h2 x.1).1 ⟨x, hx, Int.le_refl _, hne⟩)
  have c2 := cov_fits h ((h2 x.2).1 ⟨x, hx, hne, Int.le_refl _⟩)
  exact ⟨c1.1, c1.2, c2.1, c2.2⟩
/-- The state of the sweep behind k elements. -/
def swept (o : List (Int × Int)) (x : Int × Int) (k : Nat) : (Int × Int) × List (Int × Int) := (o.take k).foldl sweep (x, [])
theorem swept_zero (o : List (Int × Int)) (x : Int × Int) : swept o x 0 = (x, []) := rfl
theorem swept_succ {o : List (Int × Int)} {x y : Int × Int} {k : Nat} (hy : o[k]? = some y) : swept o x (k + 1) = sweep (swept o x k) y := by
  obtain ⟨hk, e⟩ := List.getElem?_eq_some_iff.1 hy
  unfold swept
  rw [List.take_succ_eq_append_getElem hk, e, List.foldl_append]
  rfl
theorem Apart.take {o : List (Int × Int)} (h : Apart o) (k : Nat) : Apart (o.take k) := ⟨fun x hx => h.1 x (List.mem_of_mem_take hx), h.2.sublist (List.take_sublist k o)⟩
theorem swept_ok {o : List (Int × Int)} {x : Int × Int} (ho : Apart o) (hof : ∀ z ∈ o, Fits z) (hx : x.1 ≤ x.2) (hxf : Fits x) (k : Nat) :
    (swept o x k).1.1 ≤ (swept o x k).1.2 ∧ Fits (swept o x k).1 ∧ (swept o x k).2.length ≤ k := by
  obtain ⟨h1, _, _, h4⟩ := sweep_law x (o.take k) [] x [] (by simpa using ho.take k) hx ⟨fun z hz => (by cases hz), List.Pairwise.nil⟩ (fun z hz => by cases hz) (fun z hz => by cases hz) (fun t => Iff.rfl)
  have hlen := sweep_len (o.take k) (x, [])
  have hf : ∀ z ∈ x :: o.take k, Fits z := fun z hz => by
    rcases List.mem_cons.1 hz with rfl | hz
    · exact hxf
    · exact hof z (List.mem_of_mem_take hz)
  have c1 := cov_fits hf ((cov_cons _ _ _).2 ((h4 (swept o x k).1.1).1 (.inl ⟨Int.le_refl _, h1⟩)))
  have c2 := cov_fits hf ((cov_cons _ _ _).2 ((h4 (swept o x k).1.2).1 (.inl ⟨h1, Int.le_refl _⟩)))
  refine ⟨h1, ⟨c1.1, c1.2, c2.1, c2.2⟩, ?_⟩
  have h5 : (swept o x k).2.length ≤ (o.take k).length := by unfold swept; simp only [List.length_nil, Nat.zero_add] at hlen; exact hlen
  rw [List.length_take] at h5
  omega
theorem sweep_in {X y : Int × Int} {r : List (Int × Int)} (h : meets X y = true) : sweep (X, r) y = (joinIv X y, r) := if_pos h
theorem sweep_out {X y : Int × Int} {r : List (Int × Int)} (h : meets X y = false) : sweep (X, r) y = (X, r ++ [y]) := if_neg (by simp [h])
/-- How many of r begin ahead of x. -/
def aheadOf (x : Int × Int) (r : List (Int × Int)) : Nat := (r.takeWhile fun z => decide (z.1 < x.1)).length
theorem takeWhile_take {p : Int × Int → Bool} : ∀ (r : List (Int × Int)), r.take (r.takeWhile p).length = r.takeWhile p ∧ r.drop (r.takeWhile p).length = r.dropWhile p
  | [] => ⟨rfl, rfl⟩
  | x :: r => by
    by_cases h : p x = true
    · rw [List.takeWhile_cons_of_pos h, List.dropWhile_cons_of_pos h]
      obtain ⟨h1, h2⟩ := takeWhile_take (p := p) r
      exact ⟨by rw [List.length_cons, List.take_succ_cons, h1], by rw [List.length_cons, List.drop_succ_cons, h2]⟩
    · rw [List.takeWhile_cons_of_neg h, List.dropWhile_cons_of_neg h]
      exact ⟨rfl, rfl⟩
theorem laid_at (x : Int × Int) (r : List (Int × Int)) : laid x r = r.take (aheadOf x r) ++ [x] ++ r.drop (aheadOf x r) := by
  unfold laid aheadOf
  rw [(takeWhile_take r).1, (takeWhile_take r).2]
  simp
theorem ahead_stop {x : Int × Int} : ∀ {r : List (Int × Int)} {k : Nat}, (∀ j z, j < k → r[j]? = some z → z.1 < x.1) → k ≤ r.length → (∀ z, r[k]? = some z → ¬ z.1 < x.1) → aheadOf x r = k
  | [], k, _, h2, _ => by simp at h2; subst h2; rfl
  | z :: r, 0, _, _, h3 => by
    have := h3 z (by simp)
    unfold aheadOf
    rw [List.takeWhile_cons_of_neg (by simpa using this)]
    rfl
  | z :: r, k + 1, h1, h2, h3 => by
    have hz := h1 0 z (by omega) (by simp)
    unfold aheadOf
    rw [List.takeWhile_cons_of_pos (by simpa using hz), List.length_cons]
    congr 1
    exact ahead_stop (r := r) (k := k) (fun j y hj hy => h1 (j + 1) y (by omega) (by simpa using hy)) (by simpa using h2) (fun y hy => h3 y (by simpa using hy))
theorem refIv_none {o : List (Int × Int)} {x : Int × Int} (h : x.2 < x.1) : refIv o x = o := if_pos h
theorem refIv_some {o : List (Int × Int)} {x : Int × Int} (h : ¬ x.2 < x.1) : refIv o x = laid (swept o x o.length).1 (swept o x o.length).2 := by
  unfold refIv swept
  rw [if_neg h, List.take_length]
theorem refIvs_succ {l : List (Int × Int)} {i : Nat} {x : Int × Int} (hx : l[i]? = some x) : (l.take (i + 1)).foldl refIv [] = refIv ((l.take i).foldl refIv []) x := by
  obtain ⟨hk, e⟩ := List.getElem?_eq_some_iff.1 hx
  rw [List.take_succ_eq_append_getElem hk, e, List.foldl_append]
  rfl
end Go.Proofs.YtglafbfbgjihbaaGreat
