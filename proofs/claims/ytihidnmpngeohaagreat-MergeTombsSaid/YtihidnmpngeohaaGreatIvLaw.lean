/- Plain law of merge.Intervals: what is put together is canonical, and of the same times. No program. -/
import Derived.Test.YtihidnmpngeohaaGreatIvs
namespace Go.Proofs.YtihidnmpngeohaaGreat

/-- Does a time lie in one? -/
def Cov (l : List (Int × Int)) (t : Int) : Prop := ∃ x ∈ l, x.1 ≤ t ∧ t ≤ x.2
/-- None is empty, they rise, and at least one time is left between each two. -/
def Apart (l : List (Int × Int)) : Prop := (∀ x ∈ l, x.1 ≤ x.2) ∧ l.Pairwise (fun x y => x.2 + 1 < y.1)
theorem cov_nil (t : Int) : ¬ Cov [] t := by rintro ⟨x, hx, _⟩; cases hx
theorem cov_append (l m : List (Int × Int)) (t : Int) : Cov (l ++ m) t ↔ Cov l t ∨ Cov m t := by
  constructor
  · rintro ⟨x, hx, h⟩
    rcases List.mem_append.1 hx with hx | hx
    · exact .inl ⟨x, hx, h⟩
    · exact .inr ⟨x, hx, h⟩
  · rintro (⟨x, hx, h⟩ | ⟨x, hx, h⟩)
    · exact ⟨x, List.mem_append.2 (.inl hx), h⟩
    · exact ⟨x, List.mem_append.2 (.inr hx), h⟩
theorem cov_one (x : Int × Int) (t : Int) : Cov [x] t ↔ x.1 ≤ t ∧ t ≤ x.2 := by
  constructor
  · rintro ⟨y, hy, h⟩
    rw [List.mem_singleton.1 hy] at h
    exact h
  · exact fun h => ⟨x, List.mem_singleton.2 rfl, h⟩
theorem cov_cons (x : Int × Int) (l : List (Int × Int)) (t : Int) : Cov (x :: l) t ↔ (x.1 ≤ t ∧ t ≤ x.2) ∨ Cov l t := by
  rw [← cov_one, ← cov_append]; rfl
theorem cov_perm {l m : List (Int × Int)} (h : l.Perm m) (t : Int) : Cov l t ↔ Cov m t := by
  constructor
  · rintro ⟨x, hx, g⟩; exact ⟨x, h.mem_iff.1 hx, g⟩
  · rintro ⟨x, hx, g⟩; exact ⟨x, h.mem_iff.2 hx, g⟩
theorem cov_filter (l : List (Int × Int)) (t : Int) : Cov (l.filter fun x => !decide (x.2 < x.1)) t ↔ Cov l t := by
  constructor
  · rintro ⟨x, hx, g⟩; exact ⟨x, (List.mem_filter.1 hx).1, g⟩
  · rintro ⟨x, hx, g⟩; exact ⟨x, List.mem_filter.2 ⟨hx, by simp; omega⟩, g⟩
theorem ivStep_law {o : List (Int × Int)} {x : Int × Int} (ho : Apart o) (hb : ∀ y ∈ o, y.1 ≤ x.1) (hx : x.1 ≤ x.2) : Apart (ivStep o x) ∧ (∀ y ∈ ivStep o x, y.1 ≤ x.1) ∧ ∀ t, Cov (ivStep o x) t ↔ Cov o t ∨ (x.1 ≤ t ∧ t ≤ x.2) := by
  rcases (show o = [] ∨ ∃ o' y, o = o' ++ [y] by
    rcases List.eq_nil_or_concat o with h | ⟨o', y, h⟩
    · exact .inl h
    · exact .inr ⟨o', y, by rw [h, List.concat_eq_append]⟩) with rfl | ⟨o', y, rfl⟩
  · rw [ivStep_nil]
    refine ⟨⟨fun z hz => by rw [List.mem_singleton.1 hz]; exact hx, List.pairwise_singleton _ _⟩, fun z hz => by rw [List.mem_singleton.1 hz]; exact Int.le_refl _, fun t => ?_⟩
    rw [cov_one]
    exact ⟨.inr, fun h => h.resolve_left (cov_nil t)⟩
  · have hy := ho.1 y (by simp)
    have hyb := hb y (by simp)
    have hpw := List.pairwise_append.1 ho.2
    by_cases h : x.1 ≤ y.2 ∨ x.1 - 1 = y.2
    · rw [ivStep_in o' y x h]
      refine ⟨⟨fun z hz => ?_, List.pairwise_append.2 ⟨hpw.1, List.pairwise_singleton _ _, fun a ha b hbm => ?_⟩⟩, fun z hz => ?_, fun t => ?_⟩
      · rcases List.mem_append.1 hz with hz | hz
        · exact ho.1 z (List.mem_append.2 (.inl hz))
        · rw [List.mem_singleton.1 hz]; show y.1 ≤ max y.2 x.2; omega
      · rw [List.mem_singleton.1 hbm]; exact hpw.2.2 a ha y (List.mem_singleton.2 rfl)
      · rcases List.mem_append.1 hz with hz | hz
        · exact hb z (List.mem_append.2 (.inl hz))
        · rw [List.mem_singleton.1 hz]; exact hyb
      · rw [cov_append, cov_append, cov_one, cov_one, or_assoc]
        refine or_congr_right ?_
        show y.1 ≤ t ∧ t ≤ max y.2 x.2 ↔ _
        omega
    · rw [ivStep_out o' y x h]
      refine ⟨⟨fun z hz => ?_, List.pairwise_append.2 ⟨ho.2, List.pairwise_singleton _ _, fun a ha b hbm => ?_⟩⟩, fun z hz => ?_, fun t => ?_⟩
      · rcases List.mem_append.1 hz with hz | hz
        · exact ho.1 z hz
        · rw [List.mem_singleton.1 hz]; exact hx
      · rw [List.mem_singleton.1 hbm]
        rcases List.mem_append.1 ha with ha | ha
        · have := hpw.2.2 a ha y (List.mem_singleton.2 rfl); omega
        · rw [List.mem_singleton.1 ha]; omega
      · rcases List.mem_append.1 hz with hz | hz
        · exact hb z hz
        · rw [List.mem_singleton.1 hz]; exact Int.le_refl _
      · rw [cov_append, cov_one]
theorem ivMerge_law {d : List (Int × Int)} (hs : d.Pairwise (fun x y => x.1 ≤ y.1)) (hne : ∀ x ∈ d, x.1 ≤ x.2) : Apart (ivMerge d) ∧ ∀ t, Cov (ivMerge d) t ↔ Cov d t := by
  suffices H : ∀ o : List (Int × Int), Apart o → (∀ y ∈ o, ∀ x ∈ d, y.1 ≤ x.1) → (Apart (d.foldl ivStep o) ∧ ∀ t, (Cov (d.foldl ivStep o) t ↔ Cov o t ∨ Cov d t)) by
    obtain ⟨h1, h2⟩ := H [] ⟨fun x hx => (by cases hx), List.Pairwise.nil⟩ (fun y hy => by cases hy)
    exact ⟨h1, fun t => (h2 t).trans ⟨fun h => h.resolve_left (cov_nil t), .inr⟩⟩
  induction d with
  | nil => exact fun o ho _ => ⟨ho, fun t => ⟨.inl, fun h => h.resolve_right (cov_nil t)⟩⟩
  | cons x d ih =>
    intro o ho hb
    obtain ⟨h1, h2, h3⟩ := ivStep_law ho (fun y hy => hb y hy x List.mem_cons_self) (hne x List.mem_cons_self)
    have hs' := List.pairwise_cons.1 hs
    obtain ⟨g1, g2⟩ := ih hs'.2 (fun y hy => hne y (List.mem_cons_of_mem _ hy)) (ivStep o x) h1 (fun y hy z hz => Int.le_trans (h2 y hy) (hs'.1 z hz))
    refine ⟨g1, fun t => ?_⟩
    rw [List.foldl_cons, g2 t, h3 t, cov_cons, or_assoc]
/-- What merge.Intervals puts together: canonical, and of the same times. -/
theorem ivs_law {l d : List (Int × Int)} (hp : d.Perm (l.filter fun x => !decide (x.2 < x.1))) (hs : d.Pairwise (fun x y => x.1 ≤ y.1)) : Apart (ivMerge d) ∧ ∀ t, Cov (ivMerge d) t ↔ Cov l t := by
  obtain ⟨h1, h2⟩ := ivMerge_law hs (fun x hx => by have := (List.mem_filter.1 (hp.mem_iff.1 hx)).2; simpa using this)
  exact ⟨h1, fun t => (h2 t).trans ((cov_perm hp t).trans (cov_filter l t))⟩
theorem apart_cov {x : Int × Int} {l : List (Int × Int)} (h : Apart (x :: l)) (t : Int) (ht : Cov l t) : x.2 + 1 < t := by
  obtain ⟨y, hy, h1, _⟩ := ht
  have := (List.pairwise_cons.1 h.2).1 y hy
  omega
theorem Apart.tail {x : Int × Int} {l : List (Int × Int)} (h : Apart (x :: l)) : Apart l := ⟨fun y hy => h.1 y (List.mem_cons_of_mem _ hy), (List.pairwise_cons.1 h.2).2⟩
/-- Of the same times there is one such list. -/
theorem apart_unique : ∀ {l m : List (Int × Int)}, Apart l → Apart m → (∀ t, Cov l t ↔ Cov m t) → l = m
  | [], [], _, _, _ => rfl
  | [], y :: m, _, hm, h => absurd ((h y.1).2 ⟨y, List.mem_cons_self, Int.le_refl _, hm.1 y List.mem_cons_self⟩) (cov_nil _)
  | x :: l, [], hl, _, h => absurd ((h x.1).1 ⟨x, List.mem_cons_self, Int.le_refl _, hl.1 x List.mem_cons_self⟩) (cov_nil _)
  | x :: l, y :: m, hl, hm, h => by
    have hx := hl.1 x List.mem_cons_self
    have hy := hm.1 y List.mem_cons_self
    have c1 := (cov_cons _ _ _).1 ((h x.1).1 ((cov_cons _ _ _).2 (.inl ⟨Int.le_refl _, hx⟩)))
    have c2 := (cov_cons _ _ _).1 ((h y.1).2 ((cov_cons _ _ _).2 (.inl ⟨Int.le_refl _, hy⟩)))
    have e1 : x.1 = y.1 := by
      rcases c1 with c1 | c1 <;> rcases c2 with c2 | c2 <;> try have d1 := apart_cov hm _ c1
      · omega
      · have d2 := apart_cov hl _ c2; omega
      · omega
      · have d2 := apart_cov hl _ c2; omega
    have e2 : x.2 = y.2 := by
      rcases Int.lt_trichotomy x.2 y.2 with q | q | q
      · have := (cov_cons _ _ _).1 ((h (x.2 + 1)).2 ((cov_cons _ _ _).2 (.inl ⟨by omega, by omega⟩)))
        rcases this with c | c
        · omega
        · have := apart_cov hl _ c; omega
      · exact q
      · have := (cov_cons _ _ _).1 ((h (y.2 + 1)).1 ((cov_cons _ _ _).2 (.inl ⟨by omega, by omega⟩)))
        rcases this with c | c
        · omega
        · have := apart_cov hm _ c; omega
    have e : x = y := Prod.ext e1 e2
    subst e
    congr 1
    refine apart_unique hl.tail hm.tail fun t => ⟨fun c => ?_, fun c => ?_⟩
    · have d := apart_cov hl _ c
      rcases (cov_cons _ _ _).1 ((h t).1 ((cov_cons _ _ _).2 (.inr c))) with c' | c'
      · omega
      · exact c'
    · have d := apart_cov hm _ c
      rcases (cov_cons _ _ _).1 ((h t).2 ((cov_cons _ _ _).2 (.inr c))) with c' | c'
      · omega
      · exact c'
end Go.Proofs.YtihidnmpngeohaaGreat
