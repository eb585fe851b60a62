/- Plain law of merge.Intervals: what is put together is canonical, and of the same times. No program. The plain law of the document's answer for intervals: it is the same canonical list. No program. -/
import Derived.Test.YtihidnmpngeohaaGreatIvs
namespace Go.Proofs.YtihidnmpngeohaaGreat

/-- Does a time lie in one? -/
def Cov (l : List (Int × Int)) (t : Int) : Prop := ∃ x ∈ l, x.1 ≤ t ∧ t ≤ x.2
/-- None is empty, they rise, and at least one time is left between each two. -/
def Apart (l : List (Int × Int)) : Prop := (∀ x ∈ l, x.1 ≤ x.2) ∧ l.Pairwise (fun x y => x.2 + 1 < y.1)
theorem cov_nil (t : Int) : ¬ Cov [] t := by rintro ⟨x, hx, _⟩; cases hx
theorem cov_append (l m : List (Int × Int)) (t : Int) : Cov (l ++ m) t ↔ Cov l t ∨ Cov m t := by
  constructor
  · rintro ⟨x, hx, h⟩
    rcases List.mem_append.1 hx with hx | hx
    · exact .inl ⟨x, hx, h⟩
    · exact .inr ⟨x, hx, h⟩
  · rintro (⟨x, hx, h⟩ | ⟨x, hx, h⟩)
    · exact ⟨x, List.mem_append.2 (.inl hx), h⟩
    · exact ⟨x, List.mem_append.2 (.inr hx), h⟩
theorem cov_one (x : Int × Int) (t : Int) : Cov [x] t ↔ x.1 ≤ t ∧ t ≤ x.2 := by
  constructor
  · rintro ⟨y, hy, h⟩
    rw [List.mem_singleton.1 hy] at h
    exact h
  · exact fun h => ⟨x, List.mem_singleton.2 rfl, h⟩
theorem cov_cons (x : Int × Int) (l : List (Int × Int)) (t : Int) : Cov (x :: l) t ↔ (x.1 ≤ t ∧ t ≤ x.2) ∨ Cov l t := by
  rw [← cov_one, ← cov_append]; rfl
theorem cov_perm {l m : List (Int × Int)} (h : l.Perm m) (t : Int) : Cov l t ↔ Cov m t := by
  constructor
  · rintro ⟨x, hx, g⟩; exact ⟨x, h.mem_iff.1 hx, g⟩
  · rintro ⟨x, hx, g⟩; exact ⟨x, h.mem_iff.2 hx, g⟩
theorem cov_filter (l : List (Int × Int)) (t : Int) : Cov (l.filter fun x => !decide (x.2 < x.1)) t ↔ Cov l t := by
  constructor
  · rintro ⟨x, hx, g⟩; exact ⟨x, (List.mem_filter.1 hx).1, g⟩
  · rintro ⟨x, hx, g⟩; exact ⟨x, List.mem_filter.2 ⟨hx, by simp; omega⟩, g⟩
theorem ivStep_law {o : List (Int × Int)} {x : Int × Int} (ho : Apart o) (hb : ∀ y ∈ o, y.1 ≤ x.1) (hx : x.1 ≤ x.2) : Apart (ivStep o x) ∧ (∀ y ∈ ivStep o x, y.1 ≤ x.1) ∧ ∀ t, Cov (ivStep o x) t ↔ Cov o t ∨ (x.1 ≤ t ∧ t ≤ x.2) := by
  rcases (show o = [] ∨ ∃ o' y, o = o' ++ [y] by
    rcases List.eq_nil_or_concat o with h | ⟨o', y, h⟩
    · exact .inl h
    · exact .inr ⟨o', y, by rw [h, List.concat_eq_append]⟩) with rfl | ⟨o', y, rfl⟩
  · rw [ivStep_nil]
    refine ⟨⟨fun z hz => by rw [List.mem_singleton.1 hz]; exact hx, List.pairwise_singleton _ _⟩, fun z hz => by rw [List.mem_singleton.1 hz]; exact Int.le_refl _, fun t => ?_⟩
    rw [cov_one]
    exact ⟨.inr, fun h => h.resolve_left (cov_nil t)⟩
  · have hy := ho.1 y (by simp)
    have hyb := hb y (by simp)
    have hpw := List.pairwise_append.1 ho.2
    by_cases h : x.1 ≤ y.2 ∨ x.1 - 1 = y.2
    · rw [ivStep_in o' y x h]
      refine ⟨⟨fun z hz => ?_, List.pairwise_append.2 ⟨hpw.1, List.pairwise_singleton _ _, fun a ha b hbm => ?_⟩⟩, fun z hz => ?_, fun t => ?_⟩
      · rcases List.mem_append.1 hz with hz | hz
        · exact ho.1 z (List.mem_append.2 (.inl hz))
        · rw [List.mem_singleton.1 hz]; show y.1 ≤ max y.2 x.2; omega
      · rw [List.mem_singleton.1 hbm]; exact hpw.2.2 a ha y (List.mem_singleton.2 rfl)
      · rcases List.mem_append.1 hz with hz | hz
        · exact hb z (List.mem_append.2 (.inl hz))
        · rw [List.mem_singleton.1 hz]; exact hyb
      · rw [cov_append, cov_append, cov_one, cov_one, or_assoc]
        refine or_congr_right ?_
        show y.1 ≤ t ∧ t ≤ max y.2 x.2 ↔ _
        omega
    · rw [ivStep_out o' y x h]
      refine ⟨⟨fun z hz => ?_, List.pairwise_append.2 ⟨ho.2, List.pairwise_singleton _ _, fun a ha b hbm => ?_⟩⟩, fun z hz => ?_, fun t => ?_⟩
      · rcases List.mem_append.1 hz with hz | hz
        · exact ho.1 z hz
        · rw [List.mem_singleton.1 hz]; exact hx
      · rw [List.mem_singleton.1 hbm]
        rcases List.mem_append.1 ha with ha | ha
        · have := hpw.2.2 a ha y (List.mem_singleton.2 rfl); omega
        · rw [List.mem_singleton.1 ha]; omega
      · rcases List.mem_append.1 hz with hz | hz
        · exact hb z hz
        · rw [List.mem_singleton.1 hz]; exact Int.le_refl _
      · rw [cov_append, cov_one]
theorem ivMerge_law {d : List (Int × Int)} (hs : d.Pairwise (fun x y => x.1 ≤ y.1)) (hne : ∀ x ∈ d, x.1 ≤ x.2) : Apart (ivMerge d) ∧ ∀ t, Cov (ivMerge d) t ↔ Cov d t := by
  suffices H : ∀ o : List (Int × Int), Apart o → (∀ y ∈ o, ∀ x ∈ d, y.1 ≤ x.1) → (Apart (d.foldl ivStep o) ∧ ∀ t, (Cov (d.foldl ivStep o) t ↔ Cov o t ∨ Cov d t)) by
    obtain ⟨h1, h2⟩ := H [] ⟨fun x hx => (by cases hx), List.Pairwise.nil⟩ (fun y hy => by cases hy)
    exact ⟨h1, fun t => (h2 t).trans ⟨fun h => h.resolve_left (cov_nil t), .inr⟩⟩
  induction d with
  | nil => exact fun o ho _ => ⟨ho, fun t => ⟨.inl, fun h => h.resolve_right (cov_nil t)⟩⟩
  | cons x d ih =>
    intro o ho hb
    obtain ⟨h1, h2, h3⟩ := ivStep_law ho (fun y hy => hb y hy x List.mem_cons_self) (hne x List.mem_cons_self)
    have hs' := List.pairwise_cons.1 hs
    obtain ⟨g1, g2⟩ := ih hs'.2 (fun y hy => hne y (List.mem_cons_of_mem _ hy)) (ivStep o x) h1 (fun y hy z hz => Int.le_trans (h2 y hy) (hs'.1 z hz))
    refine ⟨g1, fun t => ?_⟩
    rw [List.foldl_cons, g2 t, h3 t, cov_cons, or_assoc]
/-- What merge.Intervals puts together: canonical, and of the same times. -/
theorem ivs_law {l d : List (Int × Int)} (hp : d.Perm (l.filter fun x => !decide (x.2 < x.1))) (hs : d.Pairwise (fun x y => x.1 ≤ y.1)) : Apart (ivMerge d) ∧ ∀ t, Cov (ivMerge d) t ↔ Cov l t := by
  obtain ⟨h1, h2⟩ := ivMerge_law hs (fun x hx => by have := (List.mem_filter.1 (hp.mem_iff.1 hx)).2; simpa using this)
  exact ⟨h1, fun t => (h2 t).trans ((cov_perm hp t).trans (cov_filter l t))⟩
theorem apart_cov {x : Int × Int} {l : List (Int × Int)} (h : Apart (x :: l)) (t : Int) (ht : Cov l t) : x.2 + 1 < t := by
  obtain ⟨y, hy, h1, _⟩ := ht
  have := (List.pairwise_cons.1 h.2).1 y hy
  omega
theorem Apart.tail {x : Int × Int} {l : List (Int × Int)} (h : Apart (x :: l)) : Apart l := ⟨fun y hy => h.1 y (List.mem_cons_of_mem _ hy), (List.pairwise_cons.1 h.2).2⟩
/-- Of the same times there is one such list. -/
theorem apart_unique : ∀ {l m : List (Int × Int)}, Apart l → Apart m → (∀ t, Cov l t ↔ Cov m t) → l = m
  | [], [], _, _, _ => rfl
  | [], y :: m, _, hm, h => absurd ((h y.1).2 ⟨y, List.mem_cons_self, Int.le_refl _, hm.1 y List.mem_cons_self⟩) (cov_nil _)
  | x :: l, [], hl, _, h => absurd ((h x.1).1 ⟨x, List.mem_cons_self, Int.le_refl _, hl.1 x List.mem_cons_self⟩) (cov_nil _)
  | x :: l, y :: m, hl, hm, h => by
    have hx := hl.1 x List.mem_cons_self
    have hy := hm.1 y List.mem_cons_self
    have c1 := (cov_cons _ _ _).1 ((h x.1).1 ((cov_cons _ _ _).2 (.inl ⟨Int.le_refl _, hx⟩)))
    have c2 := (cov_cons _ _ _).1 ((h y.1).2 ((cov_cons _ _ _).2 (.inl ⟨Int.le_refl _, hy⟩)))
    have e1 : x.1 = y.1 := by
      rcases c1 with c1 | c1 <;> rcases c2 with c2 | c2 <;> try have d1 := apart_cov hm _ c1
      · omega
      · have d2 := apart_cov hl _ c2; omega
      · omega
      · have d2 := apart_cov hl _ c2; omega
    have e2 : x.2 = y.2 := by
      rcases Int.lt_trichotomy x.2 y.2 with q | q | q
      · have := (cov_cons _ _ _).1 ((h (x.2 + 1)).2 ((cov_cons _ _ _).2 (.inl ⟨by omega, by omega⟩)))
        rcases this with c | c
        · omega
        · have := apart_cov hl _ c; omega
      · exact q
      · have := (cov_cons _ _ _).1 ((h (y.2 + 1)).1 ((cov_cons _ _ _).2 (.inl ⟨by omega, by omega⟩)))
        rcases this with c | c
        · omega
        · have := apart_cov hm _ c; omega
    have e : x = y := Prod.ext e1 e2
    subst e
    congr 1
    refine apart_unique hl.tail hm.tail fun t => ⟨fun c => ?_, fun c => ?_⟩
    · have d := apart_cov hl _ c
      rcases (cov_cons _ _ _).1 ((h t).1 ((cov_cons _ _ _).2 (.inr c))) with c' | c'
      · omega
      · exact c'
    · have d := apart_cov hm _ c
      rcases (cov_cons _ _ _).1 ((h t).2 ((cov_cons _ _ _).2 (.inr c))) with c' | c'
      · omega
      · exact c'
end Go.Proofs.YtihidnmpngeohaaGreat
namespace Go.Proofs.YtihidnmpngeohaaGreat

/-- The document's answer: one interval after the other; it swallows those that it meets or touches. -/
def meets (x y : Int × Int) : Bool := decide ((y.1 ≤ x.2 ∧ x.1 ≤ y.2) ∨ (x.2 < y.1 ∧ x.2 + 1 = y.1) ∨ (y.2 < x.1 ∧ y.2 + 1 = x.1))
def joinIv (x y : Int × Int) : Int × Int := (min x.1 y.1, max x.2 y.2)
def sweep (st : (Int × Int) × List (Int × Int)) (y : Int × Int) : (Int × Int) × List (Int × Int) := if meets st.1 y then (joinIv st.1 y, st.2) else (st.1, st.2 ++ [y])
def laid (x : Int × Int) (r : List (Int × Int)) : List (Int × Int) := r.takeWhile (fun z => decide (z.1 < x.1)) ++ x :: r.dropWhile (fun z => decide (z.1 < x.1))
def refIv (o : List (Int × Int)) (x : Int × Int) : List (Int × Int) := if x.2 < x.1 then o else let st := o.foldl sweep (x, []); laid st.1 st.2
theorem meets_iff {x y : Int × Int} (hx : x.1 ≤ x.2) (hy : y.1 ≤ y.2) : meets x y = false ↔ (y.2 + 1 < x.1 ∨ x.2 + 1 < y.1) := by
  unfold meets
  rw [decide_eq_false_iff_not]
  omega
theorem sweep_law (x0 : Int × Int) : ∀ (o p : List (Int × Int)) (x : Int × Int) (r : List (Int × Int)), Apart (p ++ o) → x.1 ≤ x.2 → Apart r → (∀ z ∈ r, z.2 + 1 < x.1 ∨ x.2 + 1 < z.1) → (∀ z ∈ r, ∀ y ∈ o, z.2 + 1 < y.1) →
    (∀ t, (x.1 ≤ t ∧ t ≤ x.2) ∨ Cov r t ↔ (x0.1 ≤ t ∧ t ≤ x0.2) ∨ Cov p t) →
    (let st := o.foldl sweep (x, r); st.1.1 ≤ st.1.2 ∧ Apart st.2 ∧ (∀ z ∈ st.2, z.2 + 1 < st.1.1 ∨ st.1.2 + 1 < z.1) ∧ ∀ t, (st.1.1 ≤ t ∧ t ≤ st.1.2) ∨ Cov st.2 t ↔ (x0.1 ≤ t ∧ t ≤ x0.2) ∨ Cov (p ++ o) t)
  | [], p, x, r, _, hx, hr, hz, _, hc => by simp only [List.foldl_nil, List.append_nil]; exact ⟨hx, hr, hz, hc⟩
  | y :: o, p, x, r, ha, hx, hr, hz, hzy, hc => by
    have hy : y.1 ≤ y.2 := ha.1 y (by simp)
    have ha' : Apart ((p ++ [y]) ++ o) := by rw [List.append_assoc]; exact ha
    have hyo : ∀ y' ∈ o, y.2 + 1 < y'.1 := fun y' hy' => (List.pairwise_cons.1 (List.pairwise_append.1 ha.2).2.1).1 y' hy'
    have e : p ++ y :: o = (p ++ [y]) ++ o := by rw [List.append_assoc]; rfl
    rw [List.foldl_cons, e]
    by_cases h : meets x y = true
    · have hs : sweep (x, r) y = (joinIv x y, r) := if_pos h
      rw [hs]
      have h' : ¬ (y.2 + 1 < x.1 ∨ x.2 + 1 < y.1) := fun q => by rw [(meets_iff hx hy).2 q] at h; cases h
      refine sweep_law x0 o (p ++ [y]) (joinIv x y) r ha' (by show min x.1 y.1 ≤ max x.2 y.2; omega) hr (fun z hzr => ?_) (fun z hzr y' hy' => hzy z hzr y' (List.mem_cons_of_mem _ hy')) (fun t => ?_)
      · have h1 := hz z hzr
        have h2 := hzy z hzr y List.mem_cons_self
        have h3 := hr.1 z hzr
        show z.2 + 1 < min x.1 y.1 ∨ max x.2 y.2 + 1 < z.1
        omega
      · have h1 := hc t
        rw [cov_append, cov_one]
        have : ((joinIv x y).1 ≤ t ∧ t ≤ (joinIv x y).2) ↔ ((x.1 ≤ t ∧ t ≤ x.2) ∨ (y.1 ≤ t ∧ t ≤ y.2)) := by
          show (min x.1 y.1 ≤ t ∧ t ≤ max x.2 y.2) ↔ _
          omega
        rw [this, or_right_comm, h1, or_assoc]
    · have hs : sweep (x, r) y = (x, r ++ [y]) := if_neg h
      rw [hs]
      have h' := (meets_iff hx hy).1 (by simpa using h)
      refine sweep_law x0 o (p ++ [y]) x (r ++ [y]) ha' hx ⟨fun z hzr => ?_, List.pairwise_append.2 ⟨hr.2, List.pairwise_singleton _ _, fun a ha b hb => ?_⟩⟩ (fun z hzr => ?_) (fun z hzr y' hy' => ?_) (fun t => ?_)
      · rcases List.mem_append.1 hzr with q | q
        · exact hr.1 z q
        · rw [List.mem_singleton.1 q]; exact hy
      · rw [List.mem_singleton.1 hb]; exact hzy a ha y List.mem_cons_self
      · rcases List.mem_append.1 hzr with q | q
        · exact hz z q
        · rw [List.mem_singleton.1 q]; exact h'
      · rcases List.mem_append.1 hzr with q | q
        · exact hzy z q y' (List.mem_cons_of_mem _ hy')
        · rw [List.mem_singleton.1 q]; exact hyo y' hy'
      · rw [cov_append, cov_append, ← or_assoc, hc t, or_assoc]
theorem takeWhile_all {p : Int × Int → Bool} : ∀ {l : List (Int × Int)}, ∀ z ∈ l.takeWhile p, p z = true
  | [], z, h => by cases h
  | x :: l, z, h => by
    by_cases q : p x = true
    · rw [List.takeWhile_cons_of_pos q] at h
      rcases List.mem_cons.1 h with h | h
      · rw [h]; exact q
      · exact takeWhile_all z h
    · rw [List.takeWhile_cons_of_neg q] at h; cases h
theorem dropWhile_ge {x : Int × Int} : ∀ {l : List (Int × Int)}, Apart l → ∀ z ∈ l.dropWhile (fun z => decide (z.1 < x.1)), x.1 ≤ z.1
  | [], _, z, h => by cases h
  | y :: l, hl, z, h => by
    by_cases q : y.1 < x.1
    · rw [List.dropWhile_cons_of_pos (by simpa using q)] at h
      exact dropWhile_ge hl.tail z h
    · rw [List.dropWhile_cons_of_neg (by simpa using q)] at h
      rcases List.mem_cons.1 h with h | h
      · rw [h]; omega
      · have h1 := (List.pairwise_cons.1 hl.2).1 z h
        have h2 := hl.1 y List.mem_cons_self
        omega
theorem laid_law {x : Int × Int} {r : List (Int × Int)} (hx : x.1 ≤ x.2) (hr : Apart r) (hz : ∀ z ∈ r, z.2 + 1 < x.1 ∨ x.2 + 1 < z.1) : Apart (laid x r) ∧ ∀ t, Cov (laid x r) t ↔ (x.1 ≤ t ∧ t ≤ x.2) ∨ Cov r t := by
  have hsp : r.takeWhile (fun z => decide (z.1 < x.1)) ++ r.dropWhile (fun z => decide (z.1 < x.1)) = r := List.takeWhile_append_dropWhile
  have hA := hr
  rw [← hsp] at hA
  have hpw := List.pairwise_append.1 hA.2
  have hm1 : ∀ z ∈ r.takeWhile (fun z => decide (z.1 < x.1)), z ∈ r ∧ z.1 < x.1 := fun z h => ⟨by rw [← hsp]; exact List.mem_append.2 (.inl h), by have := takeWhile_all z h; simpa using this⟩
  have hm2 : ∀ z ∈ r.dropWhile (fun z => decide (z.1 < x.1)), z ∈ r ∧ x.1 ≤ z.1 := fun z h => ⟨by rw [← hsp]; exact List.mem_append.2 (.inr h), dropWhile_ge hr z h⟩
  refine ⟨⟨fun z h => ?_, List.pairwise_append.2 ⟨hpw.1, List.pairwise_cons.2 ⟨fun z h => ?_, hpw.2.1⟩, fun z h y h' => ?_⟩⟩, fun t => ?_⟩
  · rcases List.mem_append.1 h with h | h
    · exact hr.1 z (hm1 z h).1
    · rcases List.mem_cons.1 h with h | h
      · rw [h]; exact hx
      · exact hr.1 z (hm2 z h).1
  · obtain ⟨h1, h2⟩ := hm2 z h
    have h3 := hz z h1
    have h4 := hr.1 z h1
    omega
  · obtain ⟨h1, h2⟩ := hm1 z h
    rcases List.mem_cons.1 h' with q | q
    · rw [q]; have h3 := hz z h1; omega
    · exact hpw.2.2 z h y q
  · unfold laid
    rw [cov_append, cov_cons]
    have : Cov r t ↔ Cov (r.takeWhile (fun z => decide (z.1 < x.1))) t ∨ Cov (r.dropWhile (fun z => decide (z.1 < x.1))) t := by rw [← cov_append, hsp]
    rw [this]
    exact or_left_comm
theorem refIv_law {o : List (Int × Int)} (ho : Apart o) (x : Int × Int) : Apart (refIv o x) ∧ ∀ t, Cov (refIv o x) t ↔ Cov o t ∨ (x.1 ≤ t ∧ t ≤ x.2) := by
  unfold refIv
  by_cases h : x.2 < x.1
  · rw [if_pos h]
    exact ⟨ho, fun t => ⟨.inl, fun c => c.resolve_right (by omega)⟩⟩
  · rw [if_neg h]
    obtain ⟨h1, h2, h3, h4⟩ := sweep_law x o [] x [] ho (by omega) ⟨fun z hz => (by cases hz), List.Pairwise.nil⟩ (fun z hz => by cases hz) (fun z hz => by cases hz) (fun t => Iff.rfl)
    obtain ⟨g1, g2⟩ := laid_law h1 h2 h3
    refine ⟨g1, fun t => ?_⟩
    rw [g2 t, h4 t, List.nil_append]
    exact or_comm
theorem refIvs_law (l : List (Int × Int)) : Apart (l.foldl refIv []) ∧ ∀ t, Cov (l.foldl refIv []) t ↔ Cov l t := by
  suffices H : ∀ (l o : List (Int × Int)), Apart o → Apart (l.foldl refIv o) ∧ ∀ t, (Cov (l.foldl refIv o) t ↔ Cov o t ∨ Cov l t) by
    obtain ⟨h1, h2⟩ := H l [] ⟨fun z hz => (by cases hz), List.Pairwise.nil⟩
    exact ⟨h1, fun t => (h2 t).trans ⟨fun h => h.resolve_left (cov_nil t), .inr⟩⟩
  intro l
  induction l with
  | nil => exact fun o ho => ⟨ho, fun t => ⟨.inl, fun h => h.resolve_right (cov_nil t)⟩⟩
  | cons x l ih =>
    intro o ho
    obtain ⟨h1, h2⟩ := refIv_law ho x
    obtain ⟨g1, g2⟩ := ih _ h1
    refine ⟨g1, fun t => ?_⟩
    rw [List.foldl_cons, g2 t, h2 t, cov_cons, or_assoc]
/-- What merge.Intervals puts together is what the document says. -/
theorem ivs_ref {l d : List (Int × Int)} (hp : d.Perm (l.filter fun x => !decide (x.2 < x.1))) (hs : d.Pairwise (fun x y => x.1 ≤ y.1)) : ivMerge d = l.foldl refIv [] := by
  obtain ⟨h1, h2⟩ := ivs_law hp hs
  obtain ⟨g1, g2⟩ := refIvs_law l
  exact apart_unique h1 g1 fun t => (h2 t).trans (g2 t).symm
end Go.Proofs.YtihidnmpngeohaaGreat
