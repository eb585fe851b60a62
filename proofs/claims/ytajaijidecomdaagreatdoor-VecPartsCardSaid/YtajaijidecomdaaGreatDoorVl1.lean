/- Plain law of vectors: sorting, twice, parts, filters. No program in sight. -/
import Derived.Test.YtajaijidecomdaaGreatDoorFl3
namespace Go.Proofs.YtajaijidecomdaaGreatDoor.FL

/-- The order of numbers' bits. -/
def orderU (a b : UInt64) : Int := orderP a.toNat b.toNat
section
variable {K : Type} {c : K → K → Int}
/-- Sorted by a comparison: one of its orders. -/
def SrtOf (c : K → K → Int) (l r : List K) : Prop := r.Perm l ∧ r.Pairwise fun x y => c x y ≤ 0
structure Tot (c : K → K → Int) : Prop where
  swap : ∀ x y, c y x = - c x y
  zero : ∀ x y, c x y = 0 ↔ x = y
  trans : ∀ x y z, c x y < 0 → c y z < 0 → c x z < 0
theorem Tot.le_trans (h : Tot c) {x y z : K} (h1 : c x y ≤ 0) (h2 : c y z ≤ 0) : c x z ≤ 0 := by
  by_cases e1 : c x y = 0
  · rw [(h.zero x y).1 e1]; exact h2
  · by_cases e2 : c y z = 0
    · rw [← (h.zero y z).1 e2]; exact h1
    · have := h.trans x y z (by omega) (by omega); omega
theorem Tot.self (h : Tot c) (x : K) : c x x = 0 := (h.zero x x).2 rfl
theorem SrtOf.unique (h : Tot c) {l a b : List K} (ha : SrtOf c l a) (hb : SrtOf c l b) : a = b :=
  (ha.1.trans hb.1.symm).eq_of_pairwise (fun x y _ _ h1 h2 => by rw [h.swap] at h2; exact (h.zero x y).1 (by omega)) ha.2 hb.2
/-- At its place among sorted ones. -/
def insE (c : K → K → Int) (x : K) : List K → List K
  | [] => [x]
  | y :: l => if c x y < 0 then x :: y :: l else y :: insE c x l
def sortE (c : K → K → Int) (l : List K) : List K := l.foldl (fun o x => insE c x o) []
theorem insE_perm (x : K) : ∀ l, (insE c x l).Perm (x :: l)
  | [] => List.Perm.refl _
  | y :: l => by
    unfold insE
    split
    · exact List.Perm.refl _
    · exact ((insE_perm x l).cons y).trans (List.Perm.swap x y l)
theorem insE_up (h : Tot c) (x : K) : ∀ l, (l.Pairwise fun a b => c a b ≤ 0) → (insE c x l).Pairwise fun a b => c a b ≤ 0
  | [], _ => by simp [insE]
  | y :: l, hl => by
    unfold insE
    obtain ⟨h1, h2⟩ := List.pairwise_cons.1 hl
    split
    · rename_i hx
      refine List.pairwise_cons.2 ⟨fun z hz => ?_, hl⟩
      rcases List.mem_cons.1 hz with rfl | hz
      · omega
      · exact h.le_trans (by omega) (h1 z hz)
    · rename_i hx
      refine List.pairwise_cons.2 ⟨fun z hz => ?_, insE_up h x l h2⟩
      rcases List.mem_cons.1 ((insE_perm x l).mem_iff.1 hz) with rfl | hz
      · have := h.swap z y; omega
      · exact h1 z hz
theorem sortE_go (h : Tot c) : ∀ (l o : List K), (o.Pairwise fun a b => c a b ≤ 0) → (l.foldl (fun o x => insE c x o) o).Perm (o ++ l) ∧ (l.foldl (fun o x => insE c x o) o).Pairwise fun a b => c a b ≤ 0
  | [], o, ho => by simpa using ho
  | x :: l, o, ho => by
    obtain ⟨h1, h2⟩ := sortE_go h l (insE c x o) (insE_up h x o ho)
    refine ⟨h1.trans ?_, h2⟩
    exact ((insE_perm x o).append_right l).trans (List.perm_middle (l₁ := o) (l₂ := l) (a := x)).symm
theorem sortE_srt (h : Tot c) (l : List K) : SrtOf c l (sortE c l) := by
  have := sortE_go h l [] List.Pairwise.nil
  rw [List.nil_append] at this
  exact this
theorem sortE_eq (h : Tot c) {l r : List K} (hr : SrtOf c l r) : r = sortE c l := hr.unique h (sortE_srt h l)
theorem sortE_perm (h : Tot c) {l l' : List K} (hp : l.Perm l') : sortE c l = sortE c l' :=
  SrtOf.unique h (sortE_srt h l) ⟨(sortE_srt h l').1.trans hp.symm, (sortE_srt h l').2⟩
theorem sortE_len (h : Tot c) (l : List K) : (sortE c l).length = l.length := (sortE_srt h l).1.length_eq
theorem sortE_filter (h : Tot c) (p : K → Bool) (l : List K) : sortE c (l.filter p) = (sortE c l).filter p :=
  (sortE_eq h ⟨(sortE_srt h l).1.filter p, (sortE_srt h l).2.sublist List.filter_sublist⟩).symm
theorem sortE_sort (h : Tot c) (l : List K) : sortE c (sortE c l) = sortE c l := sortE_perm h (sortE_srt h l).1
/-- And and unless part a vector in two. -/
theorem sort_parts (h : Tot c) (p : K → Bool) (l : List K) : sortE c (sortE c (l.filter p) ++ sortE c (l.filter fun x => !p x)) = sortE c l :=
  sortE_perm h ((((sortE_srt h _).1.append (sortE_srt h _).1)).trans (List.filter_append_perm p l))
end
theorem orderU_tot : Tot orderU where
  swap x y := orderP_neg _ _
  zero x y := ⟨fun h => UInt64.toNat_inj.1 (orderP_eq x.toNat_lt y.toNat_lt h), fun h => by rw [h]; exact orderP_self _⟩
  trans x y z := orderP_trans
section
variable {K : Type} {c : K → K → Int}
/-- Elements: by their labels, then by their numbers. -/
def elC (c : K → K → Int) (x y : K × UInt64) : Int := if c x.1 y.1 = 0 then orderU x.2 y.2 else c x.1 y.1
theorem elC_tot (h : Tot c) : Tot (elC c) where
  swap x y := by
    have h1 := h.swap x.1 y.1
    have h2 := orderU_tot.swap x.2 y.2
    unfold elC
    by_cases e : c x.1 y.1 = 0
    · rw [if_pos e, if_pos (by omega)]; exact h2
    · rw [if_neg e, if_neg (by omega)]; exact h1
  zero x y := by
    unfold elC
    by_cases e : c x.1 y.1 = 0
    · rw [if_pos e, orderU_tot.zero]
      exact ⟨fun h' => Prod.ext ((h.zero _ _).1 e) h', fun h' => by rw [h']⟩
    · rw [if_neg e]
      exact ⟨fun h' => absurd h' e, fun h' => absurd ((h.zero _ _).2 (by rw [h'])) e⟩
  trans x y z := by
    intro h1 h2
    unfold elC at *
    by_cases e1 : c x.1 y.1 = 0
    · rw [if_pos e1] at h1
      rw [(h.zero _ _).1 e1]
      by_cases e2 : c y.1 z.1 = 0
      · rw [if_pos e2] at h2 ⊢
        exact orderU_tot.trans _ _ _ h1 h2
      · rw [if_neg e2] at h2 ⊢
        exact h2
    · rw [if_neg e1] at h1
      by_cases e2 : c y.1 z.1 = 0
      · rw [← (h.zero _ _).1 e2, if_neg e1]; exact h1
      · rw [if_neg e2] at h2
        have := h.trans _ _ _ h1 h2
        rw [if_neg (by omega)]; exact this
theorem elC_le {x y : K × UInt64} (h : elC c x y ≤ 0) : c x.1 y.1 ≤ 0 := by unfold elC at h; split at h <;> omega
/-- Stand two of the same labels side by side? -/
def sideB (c : K → K → Int) : List (K × UInt64) → Bool
  | x :: y :: l => decide (c x.1 y.1 = 0) || sideB c (y :: l)
  | _ => false
theorem sideB_up (h : Tot c) : ∀ l : List (K × UInt64), (l.Pairwise fun x y => elC c x y ≤ 0) → (sideB c l = false ↔ (l.map (·.1)).Nodup)
  | [], _ => by simp [sideB]
  | [x], _ => by simp [sideB]
  | x :: y :: l, hp => by
    obtain ⟨h1, h2⟩ := List.pairwise_cons.1 hp
    have ih := sideB_up h (y :: l) h2
    have hxy := elC_le (h1 y (by simp))
    unfold sideB
    rw [Bool.or_eq_false_iff, decide_eq_false_iff_not, ih, show ((x :: y :: l).map (·.1)) = x.1 :: (y :: l).map (·.1) from rfl, List.nodup_cons (a := x.1)]
    constructor
    · rintro ⟨h3, h4⟩
      refine ⟨fun hm => ?_, h4⟩
      obtain ⟨z, hz, e⟩ := List.mem_map.1 hm
      rcases List.mem_cons.1 hz with rfl | hz'
      · exact h3 ((h.zero _ _).2 e.symm)
      · have h5 := elC_le ((List.pairwise_cons.1 h2).1 z hz')
        rw [e] at h5
        have := h.swap x.1 y.1
        exact h3 (by omega)
    · rintro ⟨h3, h4⟩
      exact ⟨fun h5 => h3 (by rw [(h.zero _ _).1 h5]; simp), h4⟩
theorem sideB_sort (h : Tot c) (l : List (K × UInt64)) : sideB c (sortE (elC c) l) = false ↔ (l.map (·.1)).Nodup := by
  have hs := sortE_srt (elC_tot h) l
  rw [sideB_up h _ hs.2]
  exact (hs.1.map _).nodup_iff
/-- What comes out is in strict order of the labels, if no two have the same. -/
theorem strict_sort (h : Tot c) {l : List (K × UInt64)} (hn : (l.map (·.1)).Nodup) : (sortE (elC c) l).Pairwise fun x y => c x.1 y.1 < 0 := by
  have hs := sortE_srt (elC_tot h) l
  have hn2 : ((sortE (elC c) l).map (·.1)).Nodup := (hs.1.map _).nodup_iff.2 hn
  refine (hs.2.and (List.pairwise_map.1 hn2)).imp fun {x y} ⟨h1, h2⟩ => ?_
  have h3 := elC_le h1
  have := mt (h.zero x.1 y.1).1 h2
  omega
/-- One step of the look for elements that were kept, in order. -/
theorem look_less (h : Tot c) {p : K × UInt64 → Bool} {all x : List (K × UInt64)} {a i : Nat} {e y : K × UInt64} (hr : x.drop i = (all.drop a).filter p) (he : all[a]? = some e) (hy : x[i]? = some y) (hlt : c e.1 y.1 < 0) :
    x.drop i = (all.drop (a + 1)).filter p := by
  have h1 : all.drop a = e :: all.drop (a + 1) := by
    obtain ⟨hl, rfl⟩ := List.getElem?_eq_some_iff.1 he
    exact List.drop_eq_getElem_cons hl
  rw [hr, h1, List.filter_cons]
  split
  · rename_i hp
    exfalso
    rw [h1, List.filter_cons, if_pos hp] at hr
    have : x[i]? = some e := by rw [← List.head?_drop, hr]; rfl
    rw [hy] at this
    cases this
    rw [h.self] at hlt; omega
  · rfl
theorem look_found {p : K × UInt64 → Bool} {all x : List (K × UInt64)} {a i : Nat} {y : K × UInt64} (hs : all.Pairwise fun x y => c x.1 y.1 < 0) (hr : x.drop i = (all.drop a).filter p) (hy : x[i]? = some y)
    (hge : ∀ e, all[a]? = some e → ¬ c e.1 y.1 < 0) : all[a]? = some y ∧ x.drop (i + 1) = (all.drop (a + 1)).filter p := by
  have hx : x.drop i = y :: x.drop (i + 1) := by
    obtain ⟨hl, rfl⟩ := List.getElem?_eq_some_iff.1 hy
    exact List.drop_eq_getElem_cons hl
  have hm : y ∈ all.drop a := by
    have : y ∈ (all.drop a).filter p := by rw [← hr, hx]; simp
    exact (List.mem_filter.1 this).1
  rcases ha : all[a]? with _ | e
  · rw [List.drop_eq_nil_of_le (List.getElem?_eq_none_iff.1 ha)] at hm; cases hm
  · have h1 : all.drop a = e :: all.drop (a + 1) := by
      obtain ⟨hl, rfl⟩ := List.getElem?_eq_some_iff.1 ha
      exact List.drop_eq_getElem_cons hl
    have h2 : (all.drop a).Pairwise fun x y => c x.1 y.1 < 0 := hs.sublist (List.drop_sublist _ _)
    rw [h1] at h2 hm
    have he : e = y := by
      rcases List.mem_cons.1 hm with rfl | hm
      · rfl
      · exact absurd ((List.pairwise_cons.1 h2).1 y hm) (hge e ha)
    subst he
    refine ⟨rfl, ?_⟩
    rw [hr, h1, List.filter_cons] at hx
    split at hx
    · injection hx with _ hx; exact hx.symm
    · rename_i hp
      exfalso
      have : e ∈ List.filter p (all.drop (a + 1)) := by rw [hx]; simp
      exact hp (List.mem_filter.1 this).2
end
end Go.Proofs.YtajaijidecomdaaGreatDoor.FL
