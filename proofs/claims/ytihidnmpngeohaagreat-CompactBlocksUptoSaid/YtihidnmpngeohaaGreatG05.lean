/- Plain law of merge.Intervals: what is put together is canonical, and of the same times. No program. The plain law of the document's answer for intervals: it is the same canonical list. No program. Plain law of merge.Tombs: of each set of labels the intervals that its tombs have, put together. No program. -/
import Derived.Test.YtihidnmpngeohaaGreatG04
import Derived.Test.YtihidnmpngeohaaGreatG00
namespace Go.Proofs.YtihidnmpngeohaaGreat

/-- Does a time lie in one? -/
def Cov (l : List (Int × Int)) (t : Int) : Prop := ∃ x ∈ l, x.1 ≤ t ∧ t ≤ x.2
/-- None is empty, they rise, and at least one time is left between each two. -/
def Apart (l : List (Int × Int)) : Prop := (∀ x ∈ l, x.1 ≤ x.2) ∧ l.Pairwise (fun x y => x.2 + 1 < y.1)
theorem cov_nil (t : Int) : ¬ Cov [] t := by rintro ⟨x, hx, _⟩; cases hx
theorem cov_append (l m : List (Int × Int)) (t : Int) : Cov (l ++ m) t ↔ Cov l t ∨ Cov m t := by
  constructor
  · rintro ⟨x, hx, h⟩
    rcases List.mem_append.1 hx with hx | hx
    · exact .inl ⟨x, hx, h⟩
    · exact .inr ⟨x, hx, h⟩
  · rintro (⟨x, hx, h⟩ | ⟨x, hx, h⟩)
    · exact ⟨x, List.mem_append.2 (.inl hx), h⟩
    · exact ⟨x, List.mem_append.2 (.inr hx), h⟩
theorem cov_one (x : Int × Int) (t : Int) : Cov [x] t ↔ x.1 ≤ t ∧ t ≤ x.2 := by
  constructor
  · rintro ⟨y, hy, h⟩
    rw [List.mem_singleton.1 hy] at h
    exact h
  · exact fun h => ⟨x, List.mem_singleton.2 rfl, h⟩
theorem cov_cons (x : Int × Int) (l : List (Int × Int)) (t : Int) : Cov (x :: l) t ↔ (x.1 ≤ t ∧ t ≤ x.2) ∨ Cov l t := by
  rw [← cov_one, ← cov_append]; rfl
theorem cov_perm {l m : List (Int × Int)} (h : l.Perm m) (t : Int) : Cov l t ↔ Cov m t := by
  constructor
  · rintro ⟨x, hx, g⟩; exact ⟨x, h.mem_iff.1 hx, g⟩
  · rintro ⟨x, hx, g⟩; exact ⟨x, h.mem_iff.2 hx, g⟩
theorem cov_filter (l : List (Int × Int)) (t : Int) : Cov (l.filter fun x => !decide (x.2 < x.1)) t ↔ Cov l t := by
  constructor
  · rintro ⟨x, hx, g⟩; exact ⟨x, (List.mem_filter.1 hx).1, g⟩
  · rintro ⟨x, hx, g⟩; exact ⟨x, List.mem_filter.2 ⟨hx, by simp; omega⟩, g⟩
theorem ivStep_law {o : List (Int × Int)} {x : Int × Int} (ho : Apart o) (hb : ∀ y ∈ o, y.1 ≤ x.1) (hx : x.1 ≤ x.2) : Apart (ivStep o x) ∧ (∀ y ∈ ivStep o x, y.1 ≤ x.1) ∧ ∀ t, Cov (ivStep o x) t ↔ Cov o t ∨ (x.1 ≤ t ∧ t ≤ x.2) := by
  rcases (show o = [] ∨ ∃ o' y, o = o' ++ [y] by
    rcases List.eq_nil_or_concat o with h | ⟨o', y, h⟩
    · exact .inl h
    · exact .inr ⟨o', y, by rw [h, List.concat_eq_append]⟩) with rfl | ⟨o', y, rfl⟩
  · rw [ivStep_nil]
    refine ⟨⟨fun z hz => by rw [List.mem_singleton.1 hz]; exact hx, List.pairwise_singleton _ _⟩, fun z hz => by rw [List.mem_singleton.1 hz]; exact Int.le_refl _, fun t => ?_⟩
    rw [cov_one]
    exact ⟨.inr, fun h => h.resolve_left (cov_nil t)⟩
  · have hy := ho.1 y (by simp)
    have hyb := hb y (by simp)
    have hpw := List.pairwise_append.1 ho.2
    by_cases h : x.1 ≤ y.2 ∨ x.1 - 1 = y.2
    · rw [ivStep_in o' y x h]
      refine ⟨⟨fun z hz => ?_, List.pairwise_append.2 ⟨hpw.1, List.pairwise_singleton _ _, fun a ha b hbm => ?_⟩⟩, fun z hz => ?_, fun t => ?_⟩
      · rcases List.mem_append.1 hz with hz | hz
        · exact ho.1 z (List.mem_append.2 (.inl hz))
        · rw [List.mem_singleton.1 hz]; show y.1 ≤ max y.2 x.2; omega
      · rw [List.mem_singleton.1 hbm]; exact hpw.2.2 a ha y (List.mem_singleton.2 rfl)
      · rcases List.mem_append.1 hz with hz | hz
        · exact hb z (List.mem_append.2 (.inl hz))
        · rw [List.mem_singleton.1 hz]; exact hyb
      · rw [cov_append, cov_append, cov_one, cov_one, or_assoc]
        refine or_congr_right ?_
        show y.1 ≤ t ∧ t ≤ max y.2 x.2 ↔ _
        omega
    · rw [ivStep_out o' y x h]
      refine ⟨⟨fun z hz => ?_, List.pairwise_append.2 ⟨ho.2, List.pairwise_singleton _ _, fun a ha b hbm => ?_⟩⟩, fun z hz => ?_, fun t => ?_⟩
      · rcases List.mem_append.1 hz with hz | hz
        · exact ho.1 z hz
        · rw [List.mem_singleton.1 hz]; exact hx
      · rw [List.mem_singleton.1 hbm]
        rcases List.mem_append.1 ha with ha | ha
        · have := hpw.2.2 a ha y (List.mem_singleton.2 rfl); omega
        · rw [List.mem_singleton.1 ha]; omega
      · rcases List.mem_append.1 hz with hz | hz
        · exact hb z hz
        · rw [List.mem_singleton.1 hz]; exact Int.le_refl _
      · rw [cov_append, cov_one]
theorem ivMerge_law {d : List (Int × Int)} (hs : d.Pairwise (fun x y => x.1 ≤ y.1)) (hne : ∀ x ∈ d, x.1 ≤ x.2) : Apart (ivMerge d) ∧ ∀ t, Cov (ivMerge d) t ↔ Cov d t := by
  suffices H : ∀ o : List (Int × Int), Apart o → (∀ y ∈ o, ∀ x ∈ d, y.1 ≤ x.1) → (Apart (d.foldl ivStep o) ∧ ∀ t, (Cov (d.foldl ivStep o) t ↔ Cov o t ∨ Cov d t)) by
    obtain ⟨h1, h2⟩ := H [] ⟨fun x hx => (by cases hx), List.Pairwise.nil⟩ (fun y hy => by cases hy)
    exact ⟨h1, fun t => (h2 t).trans ⟨fun h => h.resolve_left (cov_nil t), .inr⟩⟩
  induction d with
  | nil => exact fun o ho _ => ⟨ho, fun t => ⟨.inl, fun h => h.resolve_right (cov_nil t)⟩⟩
  | cons x d ih =>
    intro o ho hb
    obtain ⟨h1, h2, h3⟩ := ivStep_law ho (fun y hy => hb y hy x List.mem_cons_self) (hne x List.mem_cons_self)
    have hs' := List.pairwise_cons.1 hs
    obtain ⟨g1, g2⟩ := ih hs'.2 (fun y hy => hne y (List.mem_cons_of_mem _ hy)) (ivStep o x) h1 (fun y hy z hz => Int.le_trans (h2 y hy) (hs'.1 z hz))
    refine ⟨g1, fun t => ?_⟩
    rw [List.foldl_cons, g2 t, h3 t, cov_cons, or_assoc]
/-- What merge.Intervals puts together: canonical, and of the same times. -/
theorem ivs_law {l d : List (Int × Int)} (hp : d.Perm (l.filter fun x => !decide (x.2 < x.1))) (hs : d.Pairwise (fun x y => x.1 ≤ y.1)) : Apart (ivMerge d) ∧ ∀ t, Cov (ivMerge d) t ↔ Cov l t := by
  obtain ⟨h1, h2⟩ := ivMerge_law hs (fun x hx => by have := (List.mem_filter.1 (hp.mem_iff.1 hx)).2; simpa using this)
  exact ⟨h1, fun t => (h2 t).trans ((cov_perm hp t).trans (cov_filter l t))⟩
theorem apart_cov {x : Int × Int} {l : List (Int × Int)} (h : Apart (x :: l)) (t : Int) (ht : Cov l t) : x.2 + 1 < t := by
  obtain ⟨y, hy, h1, _⟩ := ht
  have := (List.pairwise_cons.1 h.2).1 y hy
  omega
theorem Apart.tail {x : Int × Int} {l : List (Int × Int)} (h : Apart (x :: l)) : Apart l := ⟨fun y hy => h.1 y (List.mem_cons_of_mem _ hy), (List.pairwise_cons.1 h.2).2⟩
/-- Of the same times there is one such list. -/
theorem apart_unique : ∀ {l m : List (Int × Int)}, Apart l → Apart m → (∀ t, Cov l t ↔ Cov m t) → l = m
  | [], [], _, _, _ => rfl
  | [], y :: m, _, hm, h => absurd ((h y.1).2 ⟨y, List.mem_cons_self, Int.le_refl _, hm.1 y List.mem_cons_self⟩) (cov_nil _)
  | x :: l, [], hl, _, h => absurd ((h x.1).1 ⟨x, List.mem_cons_self, Int.le_refl _, hl.1 x List.mem_cons_self⟩) (cov_nil _)
  | x :: l, y :: m, hl, hm, h => by
    have hx := hl.1 x List.mem_cons_self
    have hy := hm.1 y List.mem_cons_self
    have c1 := (cov_cons _ _ _).1 ((h x.1).1 ((cov_cons _ _ _).2 (.inl ⟨Int.le_refl _, hx⟩)))
    have c2 := (cov_cons _ _ _).1 ((h y.1).2 ((cov_cons _ _ _).2 (.inl ⟨Int.le_refl _, hy⟩)))
    have e1 : x.1 = y.1 := by
      rcases c1 with c1 | c1 <;> rcases c2 with c2 | c2 <;> try have d1 := apart_cov hm _ c1
      · omega
      · have d2 := apart_cov hl _ c2; omega
      · omega
      · have d2 := apart_cov hl _ c2; omega
    have e2 : x.2 = y.2 := by
      rcases Int.lt_trichotomy x.2 y.2 with q | q | q
      · have := (cov_cons _ _ _).1 ((h (x.2 + 1)).2 ((cov_cons _ _ _).2 (.inl ⟨by omega, by omega⟩)))
        rcases this with c | c
        · omega
        · have := apart_cov hl _ c; omega
      · exact q
      · have := (cov_cons _ _ _).1 ((h (y.2 + 1)).1 ((cov_cons _ _ _).2 (.inl ⟨by omega, by omega⟩)))
        rcases this with c | c
        · omega
        · have := apart_cov hm _ c; omega
    have e : x = y := Prod.ext e1 e2
    subst e
    congr 1
    refine apart_unique hl.tail hm.tail fun t => ⟨fun c => ?_, fun c => ?_⟩
    · have d := apart_cov hl _ c
      rcases (cov_cons _ _ _).1 ((h t).1 ((cov_cons _ _ _).2 (.inr c))) with c' | c'
      · omega
      · exact c'
    · have d := apart_cov hm _ c
      rcases (cov_cons _ _ _).1 ((h t).2 ((cov_cons _ _ _).2 (.inr c))) with c' | c'
      · omega
      · exact c'
end Go.Proofs.YtihidnmpngeohaaGreat
namespace Go.Proofs.YtihidnmpngeohaaGreat

/-- The document's answer: one interval after the other; it swallows those that it meets or touches. -/
def meets (x y : Int × Int) : Bool := decide ((y.1 ≤ x.2 ∧ x.1 ≤ y.2) ∨ (x.2 < y.1 ∧ x.2 + 1 = y.1) ∨ (y.2 < x.1 ∧ y.2 + 1 = x.1))
def joinIv (x y : Int × Int) : Int × Int := (min x.1 y.1, max x.2 y.2)
def sweep (st : (Int × Int) × List (Int × Int)) (y : Int × Int) : (Int × Int) × List (Int × Int) := if meets st.1 y then (joinIv st.1 y, st.2) else (st.1, st.2 ++ [y])
def laid (x : Int × Int) (r : List (Int × Int)) : List (Int × Int) := r.takeWhile (fun z => decide (z.1 < x.1)) ++ x :: r.dropWhile (fun z => decide (z.1 < x.1))
def refIv (o : List (Int × Int)) (x : Int × Int) : List (Int × Int) := if x.2 < x.1 then o else let st := o.foldl sweep (x, []); laid st.1 st.2
theorem meets_iff {x y : Int × Int} (hx : x.1 ≤ x.2) (hy : y.1 ≤ y.2) : meets x y = false ↔ (y.2 + 1 < x.1 ∨ x.2 + 1 < y.1) := by
  unfold meets
  rw [decide_eq_false_iff_not]
  omega
theorem sweep_law (x0 : Int × Int) : ∀ (o p : List (Int × Int)) (x : Int × Int) (r : List (Int × Int)), Apart (p ++ o) → x.1 ≤ x.2 → Apart r → (∀ z ∈ r, z.2 + 1 < x.1 ∨ x.2 + 1 < z.1) → (∀ z ∈ r, ∀ y ∈ o, z.2 + 1 < y.1) →
    (∀ t, (x.1 ≤ t ∧ t ≤ x.2) ∨ Cov r t ↔ (x0.1 ≤ t ∧ t ≤ x0.2) ∨ Cov p t) →
    (let st := o.foldl sweep (x, r); st.1.1 ≤ st.1.2 ∧ Apart st.2 ∧ (∀ z ∈ st.2, z.2 + 1 < st.1.1 ∨ st.1.2 + 1 < z.1) ∧ ∀ t, (st.1.1 ≤ t ∧ t ≤ st.1.2) ∨ Cov st.2 t ↔ (x0.1 ≤ t ∧ t ≤ x0.2) ∨ Cov (p ++ o) t)
  | [], p, x, r, _, hx, hr, hz, _, hc => by simp only [List.foldl_nil, List.append_nil]; exact ⟨hx, hr, hz, hc⟩
  | y :: o, p, x, r, ha, hx, hr, hz, hzy, hc => by
    have hy : y.1 ≤ y.2 := ha.1 y (by simp)
    have ha' : Apart ((p ++ [y]) ++ o) := by rw [List.append_assoc]; exact ha
    have hyo : ∀ y' ∈ o, y.2 + 1 < y'.1 := fun y' hy' => (List.pairwise_cons.1 (List.pairwise_append.1 ha.2).2.1).1 y' hy'
    have e : p ++ y :: o = (p ++ [y]) ++ o := by rw [List.append_assoc]; rfl
    rw [List.foldl_cons, e]
    by_cases h : meets x y = true
    · have hs : sweep (x, r) y = (joinIv x y, r) := if_pos h
      rw [hs]
      have h' : ¬ (y.2 + 1 < x.1 ∨ x.2 + 1 < y.1) := fun q => by rw [(meets_iff hx hy).2 q] at h; cases h
      refine sweep_law x0 o (p ++ [y]) (joinIv x y) r ha' (by show min x.1 y.1 ≤ max x.2 y.2; omega) hr (fun z hzr => ?_) (fun z hzr y' hy' => hzy z hzr y' (List.mem_cons_of_mem _ hy')) (fun t => ?_)
      · have h1 := hz z hzr
        have h2 := hzy z hzr y List.mem_cons_self
        have h3 := hr.1 z hzr
        show z.2 + 1 < min x.1 y.1 ∨ max x.2 y.2 + 1 < z.1
        omega
      · have h1 := hc t
        rw [cov_append, cov_one]
        have : ((joinIv x y).1 ≤ t ∧ t ≤ (joinIv x y).2) ↔ ((x.1 ≤ t ∧ t ≤ x.2) ∨ (y.1 ≤ t ∧ t ≤ y.2)) := by
          show (min x.1 y.1 ≤ t ∧ t ≤ max x.2 y.2) ↔ _
          omega
        rw [this, or_right_comm, h1, or_assoc]
    · have hs : sweep (x, r) y = (x, r ++ [y]) := if_neg h
      rw [hs]
      have h' := (meets_iff hx hy).1 (by simpa using h)
      refine sweep_law x0 o (p ++ [y]) x (r ++ [y]) ha' hx ⟨fun z hzr => ?_, List.pairwise_append.2 ⟨hr.2, List.pairwise_singleton _ _, fun a ha b hb => ?_⟩⟩ (fun z hzr => ?_) (fun z hzr y' hy' => ?_) (fun t => ?_)
      · rcases List.mem_append.1 hzr with q | q
        · exact hr.1 z q
        · rw [List.mem_singleton.1 q]; exact hy
      · rw [List.mem_singleton.1 hb]; exact hzy a ha y List.mem_cons_self
      · rcases List.mem_append.1 hzr with q | q
        · exact hz z q
        · rw [List.mem_singleton.1 q]; exact h'
      · rcases List.mem_append.1 hzr with q | q
        · exact hzy z q y' (List.mem_cons_of_mem _ hy')
        · rw [List.mem_singleton.1 q]; exact hyo y' hy'
      · rw [cov_append, cov_append, ← or_assoc, hc t, or_assoc]
theorem takeWhile_all {p : Int × Int → Bool} : ∀ {l : List (Int × Int)}, ∀ z ∈ l.takeWhile p, p z = true
  | [], z, h => by cases h
  | x :: l, z, h => by
    by_cases q : p x = true
    · rw [List.takeWhile_cons_of_pos q] at h
      rcases List.mem_cons.1 h with h | h
      · rw [h]; exact q
      · exact takeWhile_all z h
    · rw [List.takeWhile_cons_of_neg q] at h; cases h
theorem dropWhile_ge {x : Int × Int} : ∀ {l : List (Int × Int)}, Apart l → ∀ z ∈ l.dropWhile (fun z => decide (z.1 < x.1)), x.1 ≤ z.1
  | [], _, z, h => by cases h
  | y :: l, hl, z, h => by
    by_cases q : y.1 < x.1
    · rw [List.dropWhile_cons_of_pos (by simpa using q)] at h
      exact dropWhile_ge hl.tail z h
    · rw [List.dropWhile_cons_of_neg (by simpa using q)] at h
      rcases List.mem_cons.1 h with h | h
      · rw [h]; omega
      · have h1 := (List.pairwise_cons.1 hl.2).1 z h
        have h2 := hl.1 y List.mem_cons_self
        omega
theorem laid_law {x : Int × Int} {r : List (Int × Int)} (hx : x.1 ≤ x.2) (hr : Apart r) (hz : ∀ z ∈ r, z.2 + 1 < x.1 ∨ x.2 + 1 < z.1) : Apart (laid x r) ∧ ∀ t, Cov (laid x r) t ↔ (x.1 ≤ t ∧ t ≤ x.2) ∨ Cov r t := by
  have hsp : r.takeWhile (fun z => decide (z.1 < x.1)) ++ r.dropWhile (fun z => decide (z.1 < x.1)) = r := List.takeWhile_append_dropWhile
  have hA := hr
  rw [← hsp] at hA
  have hpw := List.pairwise_append.1 hA.2
  have hm1 : ∀ z ∈ r.takeWhile (fun z => decide (z.1 < x.1)), z ∈ r ∧ z.1 < x.1 := fun z h => ⟨by rw [← hsp]; exact List.mem_append.2 (.inl h), by have := takeWhile_all z h; simpa using this⟩
  have hm2 : ∀ z ∈ r.dropWhile (fun z => decide (z.1 < x.1)), z ∈ r ∧ x.1 ≤ z.1 := fun z h => ⟨by rw [← hsp]; exact List.mem_append.2 (.inr h), dropWhile_ge hr z h⟩
  refine ⟨⟨fun z h => ?_, List.pairwise_append.2 ⟨hpw.1, List.pairwise_cons.2 ⟨fun z h => ?_, hpw.2.1⟩, fun z h y h' => ?_⟩⟩, fun t => ?_⟩
  · rcases List.mem_append.1 h with h | h
    · exact hr.1 z (hm1 z h).1
    · rcases List.mem_cons.1 h with h | h
      · rw [h]; exact hx
      · exact hr.1 z (hm2 z h).1
  · obtain ⟨h1, h2⟩ := hm2 z h
    have h3 := hz z h1
    have h4 := hr.1 z h1
    omega
  · obtain ⟨h1, h2⟩ := hm1 z h
    rcases List.mem_cons.1 h' with q | q
    · rw [q]; have h3 := hz z h1; omega
    · exact hpw.2.2 z h y q
  · unfold laid
    rw [cov_append, cov_cons]
    have : Cov r t ↔ Cov (r.takeWhile (fun z => decide (z.1 < x.1))) t ∨ Cov (r.dropWhile (fun z => decide (z.1 < x.1))) t := by rw [← cov_append, hsp]
    rw [this]
    exact or_left_comm
theorem refIv_law {o : List (Int × Int)} (ho : Apart o) (x : Int × Int) : Apart (refIv o x) ∧ ∀ t, Cov (refIv o x) t ↔ Cov o t ∨ (x.1 ≤ t ∧ t ≤ x.2) := by
  unfold refIv
  by_cases h : x.2 < x.1
  · rw [if_pos h]
    exact ⟨ho, fun t => ⟨.inl, fun c => c.resolve_right (by omega)⟩⟩
  · rw [if_neg h]
    obtain ⟨h1, h2, h3, h4⟩ := sweep_law x o [] x [] ho (by omega) ⟨fun z hz => (by cases hz), List.Pairwise.nil⟩ (fun z hz => by cases hz) (fun z hz => by cases hz) (fun t => Iff.rfl)
    obtain ⟨g1, g2⟩ := laid_law h1 h2 h3
    refine ⟨g1, fun t => ?_⟩
    rw [g2 t, h4 t, List.nil_append]
    exact or_comm
theorem refIvs_law (l : List (Int × Int)) : Apart (l.foldl refIv []) ∧ ∀ t, Cov (l.foldl refIv []) t ↔ Cov l t := by
  suffices H : ∀ (l o : List (Int × Int)), Apart o → Apart (l.foldl refIv o) ∧ ∀ t, (Cov (l.foldl refIv o) t ↔ Cov o t ∨ Cov l t) by
    obtain ⟨h1, h2⟩ := H l [] ⟨fun z hz => (by cases hz), List.Pairwise.nil⟩
    exact ⟨h1, fun t => (h2 t).trans ⟨fun h => h.resolve_left (cov_nil t), .inr⟩⟩
  intro l
  induction l with
  | nil => exact fun o ho => ⟨ho, fun t => ⟨.inl, fun h => h.resolve_right (cov_nil t)⟩⟩
  | cons x l ih =>
    intro o ho
    obtain ⟨h1, h2⟩ := refIv_law ho x
    obtain ⟨g1, g2⟩ := ih _ h1
    refine ⟨g1, fun t => ?_⟩
    rw [List.foldl_cons, g2 t, h2 t, cov_cons, or_assoc]
/-- What merge.Intervals puts together is what the document says. -/
theorem ivs_ref {l d : List (Int × Int)} (hp : d.Perm (l.filter fun x => !decide (x.2 < x.1))) (hs : d.Pairwise (fun x y => x.1 ≤ y.1)) : ivMerge d = l.foldl refIv [] := by
  obtain ⟨h1, h2⟩ := ivs_law hp hs
  obtain ⟨g1, g2⟩ := refIvs_law l
  exact apart_unique h1 g1 fun t => (h2 t).trans (g2 t).symm
end Go.Proofs.YtihidnmpngeohaaGreat
namespace Go.Proofs.YtihidnmpngeohaaGreat

/-- Intervals put together: the one list that lies apart and covers the same. -/
def ivU (l : List (Int × Int)) : List (Int × Int) := l.foldl refIv []
theorem ivU_eq {l m : List (Int × Int)} (ha : Apart m) (hc : ∀ t, Cov m t ↔ Cov l t) : m = ivU l :=
  apart_unique ha (refIvs_law l).1 fun t => (hc t).trans ((refIvs_law l).2 t).symm
theorem ivU_congr {l m : List (Int × Int)} (h : ∀ t, Cov l t ↔ Cov m t) : ivU l = ivU m :=
  ivU_eq (refIvs_law l).1 fun t => ((refIvs_law l).2 t).trans (h t)
theorem ivU_idem (l : List (Int × Int)) : ivU (ivU l) = ivU l := ivU_congr (refIvs_law l).2
theorem ivU_perm {l m : List (Int × Int)} (h : l.Perm m) : ivU l = ivU m := ivU_congr (cov_perm h)

theorem flatMap_same {α β : Type} {f g : α → List β} : ∀ {l : List α}, (∀ x ∈ l, f x = g x) → l.flatMap f = l.flatMap g
  | [], _ => rfl
  | x :: l, h => by rw [List.flatMap_cons, List.flatMap_cons, h x (by simp), flatMap_same fun y hy => h y (List.mem_cons_of_mem _ hy)]
section
variable {K : Type} {c : K → K → Int}
/-- The intervals that tombs have for some labels. -/
def goneK (c : K → K → Int) (l : List (K × (Int × Int))) (s : K) : List (Int × Int) := (l.filter fun x => decide (c x.1 s = 0)).map (·.2)
def tombsOf (c : K → K → Int) (ss : List K) (l : List (K × (Int × Int))) : List (K × (Int × Int)) := ss.flatMap fun s => (ivU (goneK c l s)).map fun g => (s, g)
/-- The rising keys of some tombs. -/
structure IsKeys (c : K → K → Int) (ss : List K) (l : List (K × (Int × Int))) : Prop where
  up : ss.Pairwise fun x y => c x y < 0
  mem : ∀ s, s ∈ ss ↔ ∃ x ∈ l, x.1 = s
theorem up_unique (h : Cmp3 c) {a b : List K} (ha : a.Pairwise fun x y => c x y < 0) (hb : b.Pairwise fun x y => c x y < 0) (hm : ∀ s, s ∈ a ↔ s ∈ b) : a = b := by
  have na : a.Nodup := ha.imp fun {x y} hxy e => by rw [e, h.self] at hxy; omega
  have nb : b.Nodup := hb.imp fun {x y} hxy e => by rw [e, h.self] at hxy; omega
  have hp : a.Perm b := (List.perm_ext_iff_of_nodup na nb).2 hm
  exact hp.eq_of_pairwise (fun x y _ _ h1 h2 => by rw [h.swap] at h2; omega) ha hb
theorem IsKeys.unique (h : Cmp3 c) {a b : List K} {l : List (K × (Int × Int))} (ha : IsKeys c a l) (hb : IsKeys c b l) : a = b := up_unique h ha.up hb.up fun s => (ha.mem s).trans (hb.mem s).symm
theorem IsKeys.perm {a : List K} {l m : List (K × (Int × Int))} (ha : IsKeys c a l) (hp : l.Perm m) : IsKeys c a m := ⟨ha.up, fun s => (ha.mem s).trans ⟨fun ⟨x, hx, e⟩ => ⟨x, hp.mem_iff.1 hx, e⟩, fun ⟨x, hx, e⟩ => ⟨x, hp.mem_iff.2 hx, e⟩⟩⟩
theorem tombsOf_perm {ss : List K} {l m : List (K × (Int × Int))} (hp : l.Perm m) : tombsOf c ss l = tombsOf c ss m := by
  unfold tombsOf goneK
  congr 1
  funext s
  rw [ivU_perm ((hp.filter _).map _)]
/-- As Go's text goes on: a run of tombs with the same labels, one behind the other. -/
def runLen (c : K → K → Int) (x : K × (Int × Int)) (d : List (K × (Int × Int))) : Nat := d.findIdx fun y => !decide (c y.1 x.1 = 0)
def runsT (c : K → K → Int) : Nat → List (K × (Int × Int)) → List (K × (Int × Int))
  | 0, _ => []
  | _ + 1, [] => []
  | f + 1, x :: t => ((ivU (((x :: t).take (runLen c x (x :: t))).map (·.2))).map fun g => (x.1, g)) ++ runsT c f ((x :: t).drop (runLen c x (x :: t)))
theorem runLen_pos (h : Cmp3 c) (x : K × (Int × Int)) (t : List (K × (Int × Int))) : 1 ≤ runLen c x (x :: t) := by
  unfold runLen
  rw [List.findIdx_cons]
  simp [h.self]
theorem runLen_le (x : K × (Int × Int)) (d : List (K × (Int × Int))) : runLen c x d ≤ d.length := List.findIdx_le_length
theorem run_take (h : Cmp3 c) (x : K × (Int × Int)) (d : List (K × (Int × Int))) : ∀ y ∈ d.take (runLen c x d), y.1 = x.1 := by
  intro y hy
  obtain ⟨i, hi, e⟩ := List.getElem_of_mem hy
  rw [List.length_take] at hi
  have h1 := List.not_of_lt_findIdx (p := fun y : K × (Int × Int) => !decide (c y.1 x.1 = 0)) (xs := d) (i := i) (by unfold runLen at hi; omega)
  rw [List.getElem_take] at e
  rw [e] at h1
  exact (h.zero _ _).1 (by simpa using h1)
theorem run_drop (h : Cmp3 c) {x : K × (Int × Int)} {t : List (K × (Int × Int))} (hs : (x :: t).Pairwise fun a b => c a.1 b.1 ≤ 0) : ∀ z ∈ (x :: t).drop (runLen c x (x :: t)), c x.1 z.1 < 0 := by
  obtain ⟨n, hn⟩ : ∃ n, runLen c x (x :: t) = n := ⟨_, rfl⟩
  have hp := runLen_pos h x t
  rw [hn] at hp ⊢
  obtain ⟨d, hd⟩ : ∃ d, x :: t = d := ⟨_, rfl⟩
  intro z hz
  obtain ⟨i, hi, e⟩ := List.getElem_of_mem hz
  rw [List.length_drop, hd] at hi
  rw [List.getElem_drop] at e
  have hnl : n < d.length := by omega
  have hfirst : ¬ c (d[n]).1 x.1 = 0 := by
    have h1 := List.findIdx_getElem (p := fun y : K × (Int × Int) => !decide (c y.1 x.1 = 0)) (xs := d) (w := by unfold runLen at hn; rw [hd] at hn; rw [hn]; exact hnl)
    have h2 : d.findIdx (fun y : K × (Int × Int) => !decide (c y.1 x.1 = 0)) = n := by unfold runLen at hn; rw [hd] at hn; exact hn
    simp only [h2] at h1
    simpa using h1
  rw [List.pairwise_iff_getElem] at hs
  have hx0 : (x :: t)[0]'(by simp) = x := rfl
  have h0n : c x.1 (d[n]).1 ≤ 0 := by
    have := hs 0 n (by simp) (by rw [hd]; exact hnl) (by omega)
    simp only [hd] at this
    rw [show d[0]'(by omega) = x by simp only [← hd]; rfl] at this
    exact this
  have h0n' : c x.1 (d[n]).1 < 0 := by
    have h1 := h.swap x.1 (d[n]).1
    omega
  have hzn : c (d[n]).1 z.1 ≤ 0 := by
    by_cases hi0 : i = 0
    · subst hi0
      have : z = d[n] := by rw [← e]; simp only [hd, Nat.add_zero]
      rw [this, h.self]
      omega
    · have h2 := hs n (n + i) (by rw [hd]; exact hnl) (by rw [hd]; omega) (by omega)
      rw [e] at h2
      simp only [hd] at h2
      exact h2
  by_cases h3 : c (d[n]).1 z.1 = 0
  · rw [← (h.zero _ _).1 h3]; exact h0n'
  · exact h.trans _ _ _ h0n' (by omega)
theorem runsT_fuel (h : Cmp3 c) : ∀ (f f' : Nat) (d : List (K × (Int × Int))), d.length ≤ f → d.length ≤ f' → runsT c f d = runsT c f' d
  | 0, f', d, hf, _ => by
    obtain rfl := List.length_eq_zero_iff.1 (Nat.le_zero.1 hf)
    cases f' <;> rfl
  | f + 1, 0, d, _, hf => by
    obtain rfl := List.length_eq_zero_iff.1 (Nat.le_zero.1 hf)
    rfl
  | f + 1, f' + 1, [], _, _ => rfl
  | f + 1, f' + 1, x :: t, hf, hf' => by
    have hp := runLen_pos h x t
    rw [runsT, runsT, runsT_fuel h f f' _ (by rw [List.length_drop]; simp only [List.length_cons] at hf ⊢; omega) (by rw [List.length_drop]; simp only [List.length_cons] at hf' ⊢; omega)]
theorem runsT_cons (h : Cmp3 c) {f : Nat} {x : K × (Int × Int)} {t : List (K × (Int × Int))} (hf : (x :: t).length ≤ f) :
    runsT c f (x :: t) = ((ivU (((x :: t).take (runLen c x (x :: t))).map (·.2))).map fun g => (x.1, g)) ++ runsT c f ((x :: t).drop (runLen c x (x :: t))) := by
  have hp := runLen_pos h x t
  obtain ⟨f', rfl⟩ : ∃ f', f = f' + 1 := ⟨f - 1, by simp only [List.length_cons] at hf; omega⟩
  rw [runsT, runsT_fuel h f' (f' + 1) _ (by rw [List.length_drop]; simp only [List.length_cons] at hf ⊢; omega) (by rw [List.length_drop]; simp only [List.length_cons] at hf ⊢; omega)]
theorem goneK_append (a b : List (K × (Int × Int))) (s : K) : goneK c (a ++ b) s = goneK c a s ++ goneK c b s := by unfold goneK; rw [List.filter_append, List.map_append]
theorem goneK_all {a : List (K × (Int × Int))} {s : K} (h : ∀ y ∈ a, c y.1 s = 0) : goneK c a s = a.map (·.2) := by
  unfold goneK
  rw [List.filter_eq_self.2 fun y hy => decide_eq_true (h y hy)]
theorem goneK_none {a : List (K × (Int × Int))} {s : K} (h : ∀ y ∈ a, ¬ c y.1 s = 0) : goneK c a s = [] := by
  unfold goneK
  rw [List.filter_eq_nil_iff.2 fun y hy => by simpa using h y hy]
  rfl
theorem runsT_law (h : Cmp3 c) : ∀ (f : Nat) (d : List (K × (Int × Int))), d.length ≤ f → (d.Pairwise fun a b => c a.1 b.1 ≤ 0) → ∃ ss, IsKeys c ss d ∧ runsT c f d = tombsOf c ss d
  | 0, d, hf, _ => by
    obtain rfl := List.length_eq_zero_iff.1 (Nat.le_zero.1 hf)
    exact ⟨[], ⟨List.Pairwise.nil, by simp⟩, rfl⟩
  | f + 1, [], _, _ => ⟨[], ⟨List.Pairwise.nil, by simp⟩, rfl⟩
  | f + 1, x :: t, hf, hs => by
    have hp := runLen_pos h x t
    have hle := runLen_le (c := c) x (x :: t)
    have ht := run_take h x (x :: t)
    have hd := run_drop h hs
    rw [runsT]
    obtain ⟨n, hn⟩ : ∃ n, runLen c x (x :: t) = n := ⟨_, rfl⟩
    rw [hn] at hp hle ht hd ⊢
    obtain ⟨ss, hk, he⟩ := runsT_law h f ((x :: t).drop n) (by rw [List.length_drop]; simp only [List.length_cons] at hf ⊢; omega) (hs.sublist (List.drop_sublist _ _))
    have hsplit : (x :: t) = (x :: t).take n ++ (x :: t).drop n := (List.take_append_drop _ _).symm
    have hss : ∀ s ∈ ss, c x.1 s < 0 := fun s hm => by
      obtain ⟨z, hz, e⟩ := (hk.mem s).1 hm
      rw [← e]; exact hd z hz
    refine ⟨x.1 :: ss, ⟨List.pairwise_cons.2 ⟨hss, hk.up⟩, fun s => ?_⟩, ?_⟩
    · rw [List.mem_cons, hk.mem]
      constructor
      · rintro (rfl | ⟨z, hz, e⟩)
        · exact ⟨x, by simp, rfl⟩
        · exact ⟨z, List.mem_of_mem_drop hz, e⟩
      · rintro ⟨z, hz, e⟩
        rw [hsplit] at hz
        rcases List.mem_append.1 hz with hz | hz
        · exact .inl (by rw [← e]; exact ht z hz)
        · exact .inr ⟨z, hz, e⟩
    · have g1 : goneK c (x :: t) x.1 = ((x :: t).take n).map (·.2) := by
        conv => lhs; rw [hsplit]
        rw [goneK_append, goneK_all (fun y hy => by rw [ht y hy, h.self]), goneK_none (fun y hy e => by have := hd y hy; rw [(h.zero _ _).1 e, h.self] at this; omega), List.append_nil]
      have g2 : ∀ s ∈ ss, goneK c (x :: t) s = goneK c ((x :: t).drop n) s := fun s hm => by
        conv => lhs; rw [hsplit]
        rw [goneK_append, goneK_none (a := (x :: t).take n) (fun y hy e => by have := hss s hm; rw [← ht y hy, e] at this; omega), List.nil_append]
      rw [he]
      unfold tombsOf
      rw [List.flatMap_cons, g1]
      congr 1
      exact flatMap_same fun s hm => by rw [g2 s hm]
/-- A key at its place among rising ones. -/
def insK (c : K → K → Int) : List K → K → List K
  | [], s => [s]
  | y :: t, s => if c y s < 0 then y :: insK c t s else if c y s = 0 then y :: t else s :: y :: t
theorem insK_mem (h : Cmp3 c) : ∀ (ss : List K) (s z : K), z ∈ insK c ss s ↔ z ∈ ss ∨ z = s
  | [], s, z => by simp [insK]
  | y :: t, s, z => by
    rw [insK]
    split
    · rw [List.mem_cons, insK_mem h t s z, List.mem_cons]
      exact or_assoc.symm
    · split
      · rename_i e
        have := (h.zero _ _).1 e
        subst this
        constructor
        · exact .inl
        · rintro (h | rfl)
          · exact h
          · simp
      · rw [List.mem_cons]
        exact or_comm
theorem insK_up (h : Cmp3 c) : ∀ (ss : List K) (s : K), (ss.Pairwise fun x y => c x y < 0) → (insK c ss s).Pairwise fun x y => c x y < 0
  | [], s, _ => by rw [insK]; exact List.pairwise_singleton _ _
  | y :: t, s, hp => by
    obtain ⟨h1, h2⟩ := List.pairwise_cons.1 hp
    rw [insK]
    split
    · rename_i hlt
      refine List.pairwise_cons.2 ⟨fun z hz => ?_, insK_up h t s h2⟩
      rcases (insK_mem h t s z).1 hz with hz | rfl
      · exact h1 z hz
      · exact hlt
    · split
      · exact hp
      · rename_i h3 h4
        have hsy : c s y < 0 := by have := h.swap s y; omega
        refine List.pairwise_cons.2 ⟨fun z hz => ?_, hp⟩
        rcases List.mem_cons.1 hz with rfl | hz
        · exact hsy
        · exact h.trans _ _ _ hsy (h1 z hz)
theorem insK_at {ss : List K} {s : K} : ∀ (k : Nat), k ≤ ss.length → (∀ j y, j < k → ss[j]? = some y → c y s < 0) → (∀ y, ss[k]? = some y → ¬ c y s < 0) → insK c ss s = if (∃ y, ss[k]? = some y ∧ c y s = 0) then ss else ss.take k ++ s :: ss.drop k := by
  induction ss with
  | nil => intro k hk _ _; rw [insK]; simp
  | cons y t ih =>
    intro k hk h1 h2
    rw [insK]
    cases k with
    | zero =>
      have := h2 y rfl
      rw [if_neg this]
      by_cases e : c y s = 0
      · rw [if_pos e, if_pos ⟨y, rfl, e⟩]
      · rw [if_neg e, if_neg (by rintro ⟨z, hz, e'⟩; obtain rfl : y = z := (by simpa using hz); exact e e')]
        rfl
    | succ k =>
      rw [if_pos (h1 0 y (by omega) rfl), ih k (by simpa using hk) (fun j z hj hz => h1 (j + 1) z (by omega) (by simpa using hz)) (fun z hz => h2 z (by simpa using hz))]
      simp only [List.getElem?_cons_succ, List.take_succ_cons, List.drop_succ_cons]
      split <;> rfl
def keysOf (c : K → K → Int) (l : List (K × (Int × Int))) : List K := l.foldl (fun ss x => insK c ss x.1) []
theorem keysOf_keys (h : Cmp3 c) (l : List (K × (Int × Int))) : IsKeys c (keysOf c l) l := by
  suffices H : ∀ (l : List (K × (Int × Int))) (ss : List K), (ss.Pairwise fun x y => c x y < 0) → ((l.foldl (fun ss x => insK c ss x.1) ss).Pairwise fun x y => c x y < 0) ∧ ∀ s, s ∈ l.foldl (fun ss x => insK c ss x.1) ss ↔ s ∈ ss ∨ ∃ x ∈ l, x.1 = s by
    obtain ⟨h1, h2⟩ := H l [] List.Pairwise.nil
    exact ⟨h1, fun s => (h2 s).trans (by simp)⟩
  intro l
  induction l with
  | nil => intro ss hp; exact ⟨hp, by simp⟩
  | cons x l ih =>
    intro ss hp
    obtain ⟨h1, h2⟩ := ih (insK c ss x.1) (insK_up h ss x.1 hp)
    refine ⟨h1, fun s => (h2 s).trans ?_⟩
    rw [insK_mem h]
    constructor
    · rintro ((hs | rfl) | ⟨z, hz, e⟩)
      · exact .inl hs
      · exact .inr ⟨x, by simp, rfl⟩
      · exact .inr ⟨z, by simp [hz], e⟩
    · rintro (hs | ⟨z, hz, e⟩)
      · exact .inl (.inl hs)
      · rcases List.mem_cons.1 hz with rfl | hz
        · exact .inl (.inr e.symm)
        · exact .inr ⟨z, hz, e⟩
/-- Tombs put together. -/
def tombsU (c : K → K → Int) (l : List (K × (Int × Int))) : List (K × (Int × Int)) := tombsOf c (keysOf c l) l
theorem runsT_is (h : Cmp3 c) {f : Nat} {d l : List (K × (Int × Int))} (hf : d.length ≤ f) (hs : d.Pairwise fun a b => c a.1 b.1 ≤ 0) (hp : d.Perm l) : runsT c f d = tombsU c l := by
  obtain ⟨ss, hk, he⟩ := runsT_law h f d hf hs
  rw [he, tombsOf_perm hp, (hk.perm hp).unique h (keysOf_keys h l)]
  rfl
theorem gone_tombs (h : Cmp3 c) : ∀ (ss : List K) (l : List (K × (Int × Int))), (ss.Pairwise fun x y => c x y < 0) → ∀ s ∈ ss, goneK c (tombsOf c ss l) s = ivU (goneK c l s)
  | [], _, _, s, hs => by cases hs
  | y :: t, l, hp, s, hs => by
    obtain ⟨h1, h2⟩ := List.pairwise_cons.1 hp
    have e : tombsOf c (y :: t) l = ((ivU (goneK c l y)).map fun g => (y, g)) ++ tombsOf c t l := by unfold tombsOf; rw [List.flatMap_cons]
    have hin : ∀ z ∈ tombsOf c t l, z.1 ∈ t := fun z hz => by
      unfold tombsOf at hz
      obtain ⟨q, hq, hz⟩ := List.mem_flatMap.1 hz
      obtain ⟨g, _, rfl⟩ := List.mem_map.1 hz
      exact hq
    rw [e, goneK_append]
    rcases List.mem_cons.1 hs with rfl | hs
    · rw [goneK_all (fun z hz => by obtain ⟨g, _, rfl⟩ := List.mem_map.1 hz; exact h.self _), goneK_none (a := tombsOf c t l) (fun z hz e => by have := h1 _ (hin z hz); rw [(h.zero _ _).1 e, h.self] at this; omega), List.append_nil, List.map_map]
      exact List.map_id _
    · rw [goneK_none (a := (ivU (goneK c l y)).map fun g => (y, g)) (fun z hz e => by obtain ⟨g, _, rfl⟩ := List.mem_map.1 hz; have := h1 s hs; have e' : c y s = 0 := e; omega), List.nil_append]
      exact gone_tombs h t l h2 s hs
/-- Tombs that were put together stay as they are. -/
theorem tombsU_idem (h : Cmp3 c) (l : List (K × (Int × Int))) : tombsU c (tombsU c l) = tombsU c l := by
  obtain ⟨ss, hss⟩ : ∃ ss, keysOf c l = ss := ⟨_, rfl⟩
  have hk := keysOf_keys h l
  unfold tombsU
  rw [hss] at hk ⊢
  have hk2 := keysOf_keys h (tombsOf c ss l)
  obtain ⟨s2, hs2⟩ : ∃ s2, keysOf c (tombsOf c ss l) = s2 := ⟨_, rfl⟩
  rw [hs2] at hk2 ⊢
  have hsub : s2 = ss.filter fun s => !(ivU (goneK c l s)).isEmpty := by
    refine up_unique h hk2.up (hk.up.filter _) fun s => ?_
    rw [hk2.mem, List.mem_filter]
    constructor
    · rintro ⟨x, hx, rfl⟩
      unfold tombsOf at hx
      obtain ⟨q, hq, hx⟩ := List.mem_flatMap.1 hx
      obtain ⟨g, hg, rfl⟩ := List.mem_map.1 hx
      refine ⟨hq, ?_⟩
      cases e : ivU (goneK c l q) with
      | nil => rw [e] at hg; cases hg
      | cons a b => rfl
    · rintro ⟨hs, hne⟩
      cases e : ivU (goneK c l s) with
      | nil => rw [e] at hne; cases hne
      | cons a b => exact ⟨(s, a), by unfold tombsOf; exact List.mem_flatMap.2 ⟨s, hs, List.mem_map.2 ⟨a, by rw [e]; simp, rfl⟩⟩, rfl⟩
  have hg : ∀ s ∈ ss, goneK c (tombsOf c ss l) s = ivU (goneK c l s) := gone_tombs h ss l hk.up
  have : ∀ q : List K, (∀ s ∈ q, s ∈ ss) → (q.filter fun s => !(ivU (goneK c l s)).isEmpty).flatMap (fun s => (ivU (goneK c (tombsOf c ss l) s)).map fun g => (s, g)) = q.flatMap fun s => (ivU (goneK c l s)).map fun g => (s, g) := by
    intro q
    induction q with
    | nil => intro _; rfl
    | cons y t ih =>
      intro hq
      have ih := ih fun s hs => hq s (List.mem_cons_of_mem _ hs)
      rw [List.filter_cons]
      cases e : ivU (goneK c l y) with
      | nil =>
        rw [if_neg (by simp), ih, List.flatMap_cons, e]
        rfl
      | cons a b =>
        rw [if_pos (by simp), List.flatMap_cons, List.flatMap_cons, ih, hg y (hq y (by simp)), ivU_idem, e]
  rw [hsub]
  exact this ss fun _ h => h
end
end Go.Proofs.YtihidnmpngeohaaGreat
