/- The plain law of the document's answer for intervals: it is the same canonical list. No program. Plain laws for the walk of the document's Intervals: lengths, bounds, the state of the sweep. No program. -/
import Derived.Test.YtihidnmpngeohaaGreatIvLaw
namespace Go.Proofs.YtihidnmpngeohaaGreat

/-- The document's answer: one interval after the other; it swallows those that it meets or touches. -/
def meets (x y : Int × Int) : Bool := decide ((y.1 ≤ x.2 ∧ x.1 ≤ y.2) ∨ (x.2 < y.1 ∧ x.2 + 1 = y.1) ∨ (y.2 < x.1 ∧ y.2 + 1 = x.1))
def joinIv (x y : Int × Int) : Int × Int := (min x.1 y.1, max x.2 y.2)
def sweep (st : (Int × Int) × List (Int × Int)) (y : Int × Int) : (Int × Int) × List (Int × Int) := if meets st.1 y then (joinIv st.1 y, st.2) else (st.1, st.2 ++ [y])
def laid (x : Int × Int) (r : List (Int × Int)) : List (Int × Int) := r.takeWhile (fun z => decide (z.1 < x.1)) ++ x :: r.dropWhile (fun z => decide (z.1 < x.1))
def refIv (o : List (Int × Int)) (x : Int × Int) : List (Int × Int) := if x.2 < x.1 then o else let st := o.foldl sweep (x, []); laid st.1 st.2
theorem meets_iff {x y : Int × Int} (hx : x.1 ≤ x.2) (hy : y.1 ≤ y.2) : meets x y = false ↔ (y.2 + 1 < x.1 ∨ x.2 + 1 < y.1) := by
  unfold meets
  rw [decide_eq_false_iff_not]
  omega
theorem sweep_law (x0 : Int × Int) : ∀ (o p : List (Int × Int)) (x : Int × Int) (r : List (Int × Int)), Apart (p ++ o) → x.1 ≤ x.2 → Apart r → (∀ z ∈ r, z.2 + 1 < x.1 ∨ x.2 + 1 < z.1) → (∀ z ∈ r, ∀ y ∈ o, z.2 + 1 < y.1) →
    (∀ t, (x.1 ≤ t ∧ t ≤ x.2) ∨ Cov r t ↔ (x0.1 ≤ t ∧ t ≤ x0.2) ∨ Cov p t) →
    (let st := o.foldl sweep (x, r); st.1.1 ≤ st.1.2 ∧ Apart st.2 ∧ (∀ z ∈ st.2, z.2 + 1 < st.1.1 ∨ st.1.2 + 1 < z.1) ∧ ∀ t, (st.1.1 ≤ t ∧ t ≤ st.1.2) ∨ Cov st.2 t ↔ (x0.1 ≤ t ∧ t ≤ x0.2) ∨ Cov (p ++ o) t)
  | [], p, x, r, _, hx, hr, hz, _, hc => by simp only [List.foldl_nil, List.append_nil]; exact ⟨hx, hr, hz, hc⟩
  | y :: o, p, x, r, ha, hx, hr, hz, hzy, hc => by
    have hy : y.1 ≤ y.2 := ha.1 y (by simp)
    have ha' : Apart ((p ++ [y]) ++ o) := by rw [List.append_assoc]; exact ha
    have hyo : ∀ y' ∈ o, y.2 + 1 < y'.1 := fun y' hy' => (List.pairwise_cons.1 (List.pairwise_append.1 ha.2).2.1).1 y' hy'
    have e : p ++ y :: o = (p ++ [y]) ++ o := by rw [List.append_assoc]; rfl
    rw [List.foldl_cons, e]
    by_cases h : meets x y = true
    · have hs : sweep (x, r) y = (joinIv x y, r) := if_pos h
      rw [hs]
      have h' : ¬ (y.2 + 1 < x.1 ∨ x.2 + 1 < y.1) := fun q => by rw [(meets_iff hx hy).2 q] at h; cases h
      refine sweep_law x0 o (p ++ [y]) (joinIv x y) r ha' (by show min x.1 y.1 ≤ max x.2 y.2; omega) hr (fun z hzr => ?_) (fun z hzr y' hy' => hzy z hzr y' (List.mem_cons_of_mem _ hy')) (fun t => ?_)
      · have h1 := hz z hzr
        have h2 := hzy z hzr y List.mem_cons_self
        have h3 := hr.1 z hzr
        show z.2 + 1 < min x.1 y.1 ∨ max x.2 y.2 + 1 < z.1
        omega
      · have h1 := hc t
        rw [cov_append, cov_one]
        have : ((joinIv x y).1 ≤ t ∧ t ≤ (joinIv x y).2) ↔ ((x.1 ≤ t ∧ t ≤ x.2) ∨ (y.1 ≤ t ∧ t ≤ y.2)) := by
          show (min x.1 y.1 ≤ t ∧ t ≤ max x.2 y.2) ↔ _
          omega
        rw [this, or_right_comm, h1, or_assoc]
    · have hs : sweep (x, r) y = (x, r ++ [y]) := if_neg h
      rw [hs]
      have h' := (meets_iff hx hy).1 (by simpa using h)
      refine sweep_law x0 o (p ++ [y]) x (r ++ [y]) ha' hx ⟨fun z hzr => ?_, List.pairwise_append.2 ⟨hr.2, List.pairwise_singleton _ _, fun a ha b hb => ?_⟩⟩ (fun z hzr => ?_) (fun z hzr y' hy' => ?_) (fun t => ?_)
      · rcases List.mem_append.1 hzr with q | q
        · exact hr.1 z q
        · rw [List.mem_singleton.1 q]; exact hy
      · rw [List.mem_singleton.1 hb]; exact hzy a ha y List.mem_cons_self
      · rcases List.mem_append.1 hzr with q | q
        · exact hz z q
        · rw [List.mem_singleton.1 q]; exact h'
      · rcases List.mem_append.1 hzr with q | q
        · exact hzy z q y' (List.mem_cons_of_mem _ hy')
        · rw [List.mem_singleton.1 q]; exact hyo y' hy'
      · rw [cov_append, cov_append, ← or_assoc, hc t, or_assoc]
theorem takeWhile_all {p : Int × Int → Bool} : ∀ {l : List (Int × Int)}, ∀ z ∈ l.takeWhile p, p z = true
  | [], z, h => by cases h
  | x :: l, z, h => by
    by_cases q : p x = true
    · rw [List.takeWhile_cons_of_pos q] at h
      rcases List.mem_cons.1 h with h | h
      · rw [h]; exact q
      · exact takeWhile_all z h
    · rw [List.takeWhile_cons_of_neg q] at h; cases h
theorem dropWhile_ge {x : Int × Int} : ∀ {l : List (Int × Int)}, Apart l → ∀ z ∈ l.dropWhile (fun z => decide (z.1 < x.1)), x.1 ≤ z.1
  | [], _, z, h => by cases h
  | y :: l, hl, z, h => by
    by_cases q : y.1 < x.1
    · rw [List.dropWhile_cons_of_pos (by simpa using q)] at h
      exact dropWhile_ge hl.tail z h
    · rw [List.dropWhile_cons_of_neg (by simpa using q)] at h
      rcases List.mem_cons.1 h with h | h
      · rw [h]; omega
      · have h1 := (List.pairwise_cons.1 hl.2).1 z h
        have h2 := hl.1 y List.mem_cons_self
        omega
theorem laid_law {x : Int × Int} {r : List (Int × Int)} (hx : x.1 ≤ x.2) (hr : Apart r) (hz : ∀ z ∈ r, z.2 + 1 < x.1 ∨ x.2 + 1 < z.1) : Apart (laid x r) ∧ ∀ t, Cov (laid x r) t ↔ (x.1 ≤ t ∧ t ≤ x.2) ∨ Cov r t := by
  have hsp : r.takeWhile (fun z => decide (z.1 < x.1)) ++ r.dropWhile (fun z => decide (z.1 < x.1)) = r := List.takeWhile_append_dropWhile
  have hA := hr
  rw [← hsp] at hA
  have hpw := List.pairwise_append.1 hA.2
  have hm1 : ∀ z ∈ r.takeWhile (fun z => decide (z.1 < x.1)), z ∈ r ∧ z.1 < x.1 := fun z h => ⟨by rw [← hsp]; exact List.mem_append.2 (.inl h), by have := takeWhile_all z h; simpa using this⟩
  have hm2 : ∀ z ∈ r.dropWhile (fun z => decide (z.1 < x.1)), z ∈ r ∧ x.1 ≤ z.1 := fun z h => ⟨by rw [← hsp]; exact List.mem_append.2 (.inr h), dropWhile_ge hr z h⟩
  refine ⟨⟨fun z h => ?_, List.pairwise_append.2 ⟨hpw.1, List.pairwise_cons.2 ⟨fun z h => ?_, hpw.2.1⟩, fun z h y h' => ?_⟩⟩, fun t => ?_⟩
  · rcases List.mem_append.1 h with h | h
    · exact hr.1 z (hm1 z h).1
    · rcases List.mem_cons.1 h with h | h
      · rw [h]; exact hx
      · exact hr.1 z (hm2 z h).1
  · obtain ⟨h1, h2⟩ := hm2 z h
    have h3 := hz z h1
    have h4 := hr.1 z h1
    omega
  · obtain ⟨h1, h2⟩ := hm1 z h
    rcases List.mem_cons.1 h' with q | q
    · rw [q]; have h3 := hz z h1; omega
    · exact hpw.2.2 z h y q
  · unfold laid
    rw [cov_append, cov_cons]
    have : Cov r t ↔ Cov (r.takeWhile (fun z => decide (z.1 < x.1))) t ∨ Cov (r.dropWhile (fun z => decide (z.1 < x.1))) t := by rw [← cov_append, hsp]
    rw [this]
    exact or_left_comm
theorem refIv_law {o : List (Int × Int)} (ho : Apart o) (x : Int × Int) : Apart (refIv o x) ∧ ∀ t, Cov (refIv o x) t ↔ Cov o t ∨ (x.1 ≤ t ∧ t ≤ x.2) := by
  unfold refIv
  by_cases h : x.2 < x.1
  · rw [if_pos h]
    exact ⟨ho, fun t => ⟨.inl, fun c => c.resolve_right (by omega)⟩⟩
  · rw [if_neg h]
    obtain ⟨h1, h2, h3, h4⟩ := sweep_law x o [] x [] ho (by omega) ⟨fun z hz => (by cases hz), List.Pairwise.nil⟩ (fun z hz => by cases hz) (fun z hz => by cases hz) (fun t => Iff.rfl)
    obtain ⟨g1, g2⟩ := laid_law h1 h2 h3
    refine ⟨g1, fun t => ?_⟩
    rw [g2 t, h4 t, List.nil_append]
    exact or_comm
theorem refIvs_law (l : List (Int × Int)) : Apart (l.foldl refIv []) ∧ ∀ t, Cov (l.foldl refIv []) t ↔ Cov l t := by
  suffices H : ∀ (l o : List (Int × Int)), Apart o → Apart (l.foldl refIv o) ∧ ∀ t, (Cov (l.foldl refIv o) t ↔ Cov o t ∨ Cov l t) by
    obtain ⟨h1, h2⟩ := H l [] ⟨fun z hz => (by cases hz), List.Pairwise.nil⟩
    exact ⟨h1, fun t => (h2 t).trans ⟨fun h => h.resolve_left (cov_nil t), .inr⟩⟩
  intro l
  induction l with
  | nil => exact fun o ho => ⟨ho, fun t => ⟨.inl, fun h => h.resolve_right (cov_nil t)⟩⟩
  | cons x l ih =>
    intro o ho
    obtain ⟨h1, h2⟩ := refIv_law ho x
    obtain ⟨g1, g2⟩ := ih _ h1
    refine ⟨g1, fun t => ?_⟩
    rw [List.foldl_cons, g2 t, h2 t, cov_cons, or_assoc]
/-- What merge.Intervals puts together is what the document says. -/
theorem ivs_ref {l d : List (Int × Int)} (hp : d.Perm (l.filter fun x => !decide (x.2 < x.1))) (hs : d.Pairwise (fun x y => x.1 ≤ y.1)) : ivMerge d = l.foldl refIv [] := by
  obtain ⟨h1, h2⟩ := ivs_law hp hs
  obtain ⟨g1, g2⟩ := refIvs_law l
  exact apart_unique h1 g1 fun t => (h2 t).trans (g2 t).symm
end Go.Proofs.YtihidnmpngeohaaGreat
namespace Go.Proofs.YtihidnmpngeohaaGreat

theorem sweep_len : ∀ (o : List (Int × Int)) (st : (Int × Int) × List (Int × Int)), (o.foldl sweep st).2.length ≤ st.2.length + o.length
  | [], st => by simp
  | y :: o, st => by
    rw [List.foldl_cons]
    have h := sweep_len o (sweep st y)
    have h2 : (sweep st y).2.length ≤ st.2.length + 1 := by
      unfold sweep
      split
      · simp
      · simp
    rw [List.length_cons]
    omega
theorem laid_len (x : Int × Int) (r : List (Int × Int)) : (laid x r).length = r.length + 1 := by
  unfold laid
  have h := congrArg List.length (List.takeWhile_append_dropWhile (p := fun z : Int × Int => decide (z.1 < x.1)) (l := r))
  rw [List.length_append] at h
  rw [List.length_append, List.length_cons]
  omega
theorem refIv_len (o : List (Int × Int)) (x : Int × Int) : (refIv o x).length ≤ o.length + 1 := by
  unfold refIv
  split
  · omega
  · have h := sweep_len o (x, [])
    simp only [laid_len]
    simp only [List.length_nil] at h
    omega
theorem refIvs_length (l : List (Int × Int)) : (l.foldl refIv []).length ≤ l.length := by
  suffices H : ∀ (l o : List (Int × Int)), (l.foldl refIv o).length ≤ o.length + l.length by simpa using H l []
  intro l
  induction l with
  | nil => intro o; simp
  | cons x l ih =>
    intro o
    have h1 := ih (refIv o x)
    have h2 := refIv_len o x
    simp only [List.foldl_cons, List.length_cons]
    omega
/-- An interval whose ends an int64 holds. -/
def Fits (x : Int × Int) : Prop := -9223372036854775808 ≤ x.1 ∧ x.1 ≤ 9223372036854775807 ∧ -9223372036854775808 ≤ x.2 ∧ x.2 ≤ 9223372036854775807
theorem cov_fits {l : List (Int × Int)} (h : ∀ x ∈ l, Fits x) {t : Int} (ht : Cov l t) : -9223372036854775808 ≤ t ∧ t ≤ 9223372036854775807 := by
  obtain ⟨x, hx, h1, h2⟩ := ht
  have := h x hx
  unfold Fits at this
  omega
theorem refIvs_fits {l : List (Int × Int)} (h : ∀ x ∈ l, Fits x) : ∀ x ∈ l.foldl refIv [], Fits x := by
  intro x hx
  obtain ⟨h1, h2⟩ := refIvs_law l
  have hne := h1.1 x hx
  have c1 := cov_fits h ((h2 x.1).1 ⟨x, hx, Int.le_refl _, hne⟩)
  have c2 := cov_fits h ((h2 x.2).1 ⟨x, hx, hne, Int.le_refl _⟩)
  exact ⟨c1.1, c1.2, c2.1, c2.2⟩
/-- The state of the sweep behind k elements. -/
def swept (o : List (Int × Int)) (x : Int × Int) (k : Nat) : (Int × Int) × List (Int × Int) := (o.take k).foldl sweep (x, [])
theorem swept_zero (o : List (Int × Int)) (x : Int × Int) : swept o x 0 = (x, []) := rfl
theorem swept_succ {o : List (Int × Int)} {x y : Int × Int} {k : Nat} (hy : o[k]? = some y) : swept o x (k + 1) = sweep (swept o x k) y := by
  obtain ⟨hk, e⟩ := List.getElem?_eq_some_iff.1 hy
  unfold swept
  rw [List.take_succ_eq_append_getElem hk, e, List.foldl_append]
  rfl
theorem Apart.take {o : List (Int × Int)} (h : Apart o) (k : Nat) : Apart (o.take k) := ⟨fun x hx => h.1 x (List.mem_of_mem_take hx), h.2.sublist (List.take_sublist k o)⟩
theorem swept_ok {o : List (Int × Int)} {x : Int × Int} (ho : Apart o) (hof : ∀ z ∈ o, Fits z) (hx : x.1 ≤ x.2) (hxf : Fits x) (k : Nat) :
    (swept o x k).1.1 ≤ (swept o x k).1.2 ∧ Fits (swept o x k).1 ∧ (swept o x k).2.length ≤ k := by
  obtain ⟨h1, _, _, h4⟩ := sweep_law x (o.take k) [] x [] (by simpa using ho.take k) hx ⟨fun z hz => (by cases hz), List.Pairwise.nil⟩ (fun z hz => by cases hz) (fun z hz => by cases hz) (fun t => Iff.rfl)
  have hlen := sweep_len (o.take k) (x, [])
  have hf : ∀ z ∈ x :: o.take k, Fits z := fun z hz => by
    rcases List.mem_cons.1 hz with rfl | hz
    · exact hxf
    · exact hof z (List.mem_of_mem_take hz)
  have c1 := cov_fits hf ((cov_cons _ _ _).2 ((h4 (swept o x k).1.1).1 (.inl ⟨Int.le_refl _, h1⟩)))
  have c2 := cov_fits hf ((cov_cons _ _ _).2 ((h4 (swept o x k).1.2).1 (.inl ⟨h1, Int.le_refl _⟩)))
  refine ⟨h1, ⟨c1.1, c1.2, c2.1, c2.2⟩, ?_⟩
  have h5 : (swept o x k).2.length ≤ (o.take k).length := by unfold swept; simp only [List.length_nil, Nat.zero_add] at hlen; exact hlen
  rw [List.length_take] at h5
  omega
theorem sweep_in {X y : Int × Int} {r : List (Int × Int)} (h : meets X y = true) : sweep (X, r) y = (joinIv X y, r) := if_pos h
theorem sweep_out {X y : Int × Int} {r : List (Int × Int)} (h : meets X y = false) : sweep (X, r) y = (X, r ++ [y]) := if_neg (by simp [h])
/-- How many of r begin ahead of x. -/
def aheadOf (x : Int × Int) (r : List (Int × Int)) : Nat := (r.takeWhile fun z => decide (z.1 < x.1)).length
theorem takeWhile_take {p : Int × Int → Bool} : ∀ (r : List (Int × Int)), r.take (r.takeWhile p).length = r.takeWhile p ∧ r.drop (r.takeWhile p).length = r.dropWhile p
  | [] => ⟨rfl, rfl⟩
  | x :: r => by
    by_cases h : p x = true
    · rw [List.takeWhile_cons_of_pos h, List.dropWhile_cons_of_pos h]
      obtain ⟨h1, h2⟩ := takeWhile_take (p := p) r
      exact ⟨by rw [List.length_cons, List.take_succ_cons, h1], by rw [List.length_cons, List.drop_succ_cons, h2]⟩
    · rw [List.takeWhile_cons_of_neg h, List.dropWhile_cons_of_neg h]
      exact ⟨rfl, rfl⟩
theorem laid_at (x : Int × Int) (r : List (Int × Int)) : laid x r = r.take (aheadOf x r) ++ [x] ++ r.drop (aheadOf x r) := by
  unfold laid aheadOf
  rw [(takeWhile_take r).1, (takeWhile_take r).2]
  simp
theorem ahead_stop {x : Int × Int} : ∀ {r : List (Int × Int)} {k : Nat}, (∀ j z, j < k → r[j]? = some z → z.1 < x.1) → k ≤ r.length → (∀ z, r[k]? = some z → ¬ z.1 < x.1) → aheadOf x r = k
  | [], k, _, h2, _ => by simp at h2; subst h2; rfl
  | z :: r, 0, _, _, h3 => by
    have := h3 z (by simp)
    unfold aheadOf
    rw [List.takeWhile_cons_of_neg (by simpa using this)]
    rfl
  | z :: r, k + 1, h1, h2, h3 => by
    have hz := h1 0 z (by omega) (by simp)
    unfold aheadOf
    rw [List.takeWhile_cons_of_pos (by simpa using hz), List.length_cons]
    congr 1
    exact ahead_stop (r := r) (k := k) (fun j y hj hy => h1 (j + 1) y (by omega) (by simpa using hy)) (by simpa using h2) (fun y hy => h3 y (by simpa using hy))
theorem refIv_none {o : List (Int × Int)} {x : Int × Int} (h : x.2 < x.1) : refIv o x = o := if_pos h
theorem refIv_some {o : List (Int × Int)} {x : Int × Int} (h : ¬ x.2 < x.1) : refIv o x = laid (swept o x o.length).1 (swept o x o.length).2 := by
  unfold refIv swept
  rw [if_neg h, List.take_length]
theorem refIvs_succ {l : List (Int × Int)} {i : Nat} {x : Int × Int} (hx : l[i]? = some x) : (l.take (i + 1)).foldl refIv [] = refIv ((l.take i).foldl refIv []) x := by
  obtain ⟨hk, e⟩ := List.getElem?_eq_some_iff.1 hx
  rw [List.take_succ_eq_append_getElem hk, e, List.foldl_append]
  rfl
end Go.Proofs.YtihidnmpngeohaaGreat
