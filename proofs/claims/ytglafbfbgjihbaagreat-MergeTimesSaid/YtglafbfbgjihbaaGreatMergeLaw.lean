/- Plain laws of the merge: what stands in line, sorted by time, list and place. No program. -/
import Derived.Test.YtglafbfbgjihbaaGreatHeapLaw
namespace Go.Proofs.YtglafbfbgjihbaaGreat

/-- A sample with its list and its place. -/
structure Tg where
  t : Int
  v : Int
  rank : Int
  idx : Nat
def tle (a b : Tg) : Bool := decide (a.t < b.t ∨ (a.t = b.t ∧ (a.rank < b.rank ∨ (a.rank = b.rank ∧ (a.idx < b.idx ∨ (a.idx = b.idx ∧ a.v ≤ b.v))))))
theorem tle_trans (a b c : Tg) (h : tle a b = true) (g : tle b c = true) : tle a c = true := by
  simp only [tle, decide_eq_true_eq] at *; omega
theorem tle_total (a b : Tg) : (tle a b || tle b a) = true := by
  simp only [tle, Bool.or_eq_true, decide_eq_true_eq]; omega
theorem tle_anti {a b : Tg} (h : tle a b = true) (g : tle b a = true) : a = b := by
  simp only [tle, decide_eq_true_eq] at *
  cases a; cases b
  simp only [Tg.mk.injEq] at *
  omega
def sortT (l : List Tg) : List Tg := l.mergeSort tle
theorem sortT_sorted (l : List Tg) : (sortT l).Pairwise (fun a b => tle a b = true) := List.pairwise_mergeSort tle_trans tle_total l
theorem sortT_perm (l : List Tg) : (sortT l).Perm l := List.mergeSort_perm l tle
theorem sorted_unique : ∀ {l m : List Tg}, l.Pairwise (fun a b => tle a b = true) → m.Pairwise (fun a b => tle a b = true) → l.Perm m → l = m := fun hl hm hp =>
  hp.eq_of_pairwise (fun _ _ _ _ h g => tle_anti h g) hl hm
theorem sortT_congr {l m : List Tg} (h : l.Perm m) : sortT l = sortT m := sorted_unique (sortT_sorted l) (sortT_sorted m) ((sortT_perm l).trans (h.trans (sortT_perm m).symm))
theorem sortT_cons {x : Tg} {l : List Tg} (h : ∀ y ∈ l, tle x y = true) : sortT (x :: l) = x :: sortT l :=
  sorted_unique (sortT_sorted _) (List.pairwise_cons.2 ⟨fun y hy => h y ((sortT_perm l).mem_iff.1 hy), sortT_sorted l⟩) ((sortT_perm _).trans ((sortT_perm l).symm.cons x))
/-- A list's samples from place i on. -/
def tagsFrom (rank : Int) : Nat → List (Int × Int) → List Tg
  | _, [] => []
  | i, x :: r => ⟨x.1, x.2, rank, i⟩ :: tagsFrom rank (i + 1) r
/-- One list in line: its first sample, its place, what comes behind. -/
structure Src where
  it : It
  i : Nat
  rest : List (Int × Int)
def Src.tg (s : Src) : Tg := ⟨s.it.t, s.it.v, s.it.rank, s.i⟩
def Src.flow (s : Src) : List Tg := s.tg :: tagsFrom s.it.rank (s.i + 1) s.rest
/-- A list rises. -/
def Rises (xs : List (Int × Int)) : Prop := xs.Pairwise (fun x y => x.1 ≤ y.1)
def Src.ok (s : Src) : Prop := Rises ((s.it.t, s.it.v) :: s.rest)
theorem tags_ge {rank : Int} {a : Tg} : ∀ {i : Nat} {xs : List (Int × Int)}, (∀ x ∈ xs, a.t ≤ x.1) → a.rank ≤ rank → (a.rank = rank → a.idx < i) → ∀ y ∈ tagsFrom rank i xs, tle a y = true
  | _, [], _, _, _, y, hy => by simp [tagsFrom] at hy
  | i, x :: r, h1, h2, h3, y, hy => by
    rcases List.mem_cons.1 hy with rfl | hy
    · have := h1 x List.mem_cons_self
      simp only [tle, decide_eq_true_eq]
      by_cases e : a.rank = rank
      · have := h3 e; omega
      · omega
    · exact tags_ge (i := i + 1) (xs := r) (fun z hz => h1 z (List.mem_cons_of_mem _ hz)) h2 (fun e => by have := h3 e; omega) y hy
theorem Src.least {s : Src} (h : s.ok) : ∀ y ∈ s.flow, tle s.tg y = true := by
  intro y hy
  rcases List.mem_cons.1 hy with rfl | hy
  · simp [tle]
  · exact tags_ge (fun x hx => (List.pairwise_cons.1 h).1 x hx) (Int.le_refl _) (fun _ => Nat.lt_succ_self _) y hy
/-- The item that is below none comes first of all that stands in line. -/
theorem least_of_all {s : Src} {ss : List Src} (hs : s.ok) (hss : ∀ u ∈ ss, u.ok) (hmin : ∀ u ∈ ss, itLess u.it s.it = false) (hne : ∀ u ∈ ss, u.it.rank ≠ s.it.rank) : ∀ y ∈ (tagsFrom s.it.rank (s.i + 1) s.rest) ++ ss.flatMap Src.flow, tle s.tg y = true := by
  intro y hy
  rcases List.mem_append.1 hy with hy | hy
  · exact Src.least hs y (List.mem_cons_of_mem _ hy)
  · obtain ⟨u, hu, hyu⟩ := List.mem_flatMap.1 hy
    refine tle_trans _ u.tg _ ?_ (Src.least (hss u hu) y hyu)
    have h1 := hmin u hu
    have h2 := hne u hu
    simp only [itLess, decide_eq_false_iff_not] at h1
    unfold tle Src.tg
    rw [decide_eq_true_eq]
    simp only []
    omega
/-- One sample is put behind the rising ones. -/
def outStep (o : List (Int × Int)) (x : Int × Int) : List (Int × Int) :=
  match o.getLast? with
  | some y => if y.1 = x.1 then o.dropLast ++ [x] else o ++ [x]
  | none => [x]
def collapse (p : List Tg) : List (Int × Int) := (p.map fun a => (a.t, a.v)).foldl outStep []
theorem collapse_snoc (p : List Tg) (a : Tg) : collapse (p ++ [a]) = outStep (collapse p) (a.t, a.v) := by simp [collapse, List.map_append, List.foldl_append]
theorem outStep_nil (x : Int × Int) : outStep [] x = [x] := rfl
theorem outStep_same (o : List (Int × Int)) (y x : Int × Int) (h : y.1 = x.1) : outStep (o ++ [y]) x = o ++ [x] := by
  unfold outStep
  rw [List.getLast?_concat]
  simp only []
  rw [if_pos h, List.dropLast_concat]
theorem outStep_new (o : List (Int × Int)) (y x : Int × Int) (h : ¬ y.1 = x.1) : outStep (o ++ [y]) x = o ++ [y] ++ [x] := by
  unfold outStep
  rw [List.getLast?_concat]
  simp only []
  rw [if_neg h]
theorem outStep_len (o : List (Int × Int)) (x : Int × Int) : (outStep o x).length ≤ o.length + 1 := by
  unfold outStep
  split
  · rename_i y hy
    have : o ≠ [] := by rintro rfl; simp at hy
    have := List.length_pos_iff.2 this
    split
    · simp; try omega
    · simp
  · simp
theorem collapse_len (p : List Tg) : (collapse p).length ≤ p.length := by
  suffices ∀ (l : List (Int × Int)) (o : List (Int × Int)), (l.foldl outStep o).length ≤ o.length + l.length by
    have := this (p.map fun a => (a.t, a.v)) []
    simpa [collapse] using this
  intro l
  induction l with
  | nil => intro o; simp
  | cons x l ih =>
    intro o
    have h1 := ih (outStep o x)
    have h2 := outStep_len o x
    simp only [List.foldl_cons, List.length_cons]
    omega
theorem tags_length (rank : Int) : ∀ (i : Nat) (xs : List (Int × Int)), (tagsFrom rank i xs).length = xs.length
  | _, [] => rfl
  | i, _ :: r => by simp [tagsFrom, tags_length rank (i + 1) r]
theorem flow_length {ss ss' : List Src} {s : Src} (h : ss.Perm (s :: ss')) : (ss.flatMap Src.flow).length = s.rest.length + 1 + (ss'.flatMap Src.flow).length := by
  rw [(List.Perm.flatMap_right Src.flow h).length_eq, List.flatMap_cons, List.length_append]
  simp only [Src.flow, List.length_cons, tags_length]
/-- A list's samples by their times, those of one time in their order. -/
def sortS (xs : List (Int × Int)) : List (Int × Int) := xs.mergeSort fun a b => decide (a.1 ≤ b.1)
theorem sortS_rises (xs : List (Int × Int)) : Rises (sortS xs) := by
  have h := List.pairwise_mergeSort (le := fun a b : Int × Int => decide (a.1 ≤ b.1)) (fun a b c h g => by simp only [decide_eq_true_eq] at *; omega) (fun a b => by simp only [Bool.or_eq_true, decide_eq_true_eq]; omega) xs
  exact h.imp fun h => by simpa using h
theorem sortS_length (xs : List (Int × Int)) : (sortS xs).length = xs.length := List.length_mergeSort xs
/-- All lists' samples, with their lists and places. -/
def tagAll : Nat → List (List (Int × Int)) → List Tg
  | _, [] => []
  | i, xs :: r => tagsFrom (i : Int) 0 (sortS xs) ++ tagAll (i + 1) r
theorem tagAll_snoc (xs : List (Int × Int)) : ∀ (i : Nat) (ls : List (List (Int × Int))), tagAll i (ls ++ [xs]) = tagAll i ls ++ tagsFrom ((i + ls.length : Nat) : Int) 0 (sortS xs)
  | i, [] => by simp [tagAll]
  | i, y :: ls => by
    rw [List.cons_append, tagAll, tagAll, tagAll_snoc xs (i + 1) ls, List.append_assoc, List.length_cons]
    congr 4
    omega
theorem tagAll_take {ls : List (List (Int × Int))} {k : Nat} {xs : List (Int × Int)} (h : ls[k]? = some xs) : tagAll 0 (ls.take (k + 1)) = tagAll 0 (ls.take k) ++ tagsFrom (k : Int) 0 (sortS xs) := by
  obtain ⟨hk, e⟩ := List.getElem?_eq_some_iff.1 h
  rw [List.take_succ_eq_append_getElem hk, e, tagAll_snoc, List.length_take, Nat.zero_add, Nat.min_eq_left (by omega)]
end Go.Proofs.YtglafbfbgjihbaaGreat
