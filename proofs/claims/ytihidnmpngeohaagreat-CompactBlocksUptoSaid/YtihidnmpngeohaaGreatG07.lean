/- Plain laws of the binary heap of items: a step up, a step down. No program. Plain laws of the merge: what stands in line, sorted by time, list and place. No program. Plain law of merge.Samples: what is put together is, of each time, the last sample. No program. -/
import Derived.Test.YtihidnmpngeohaaGreatQueue
namespace Go.Proofs.YtihidnmpngeohaaGreat

theorem less_irrefl (x : It) : itLess x x = false := by simp [itLess]
theorem less_asymm {x y : It} (h : itLess x y = true) : itLess y x = false := by
  simp only [itLess, decide_eq_true_eq, decide_eq_false_iff_not] at *; omega
theorem less_trans {x y z : It} (h : itLess x y = true) (g : itLess y z = true) : itLess x z = true := by
  simp only [itLess, decide_eq_true_eq] at *; omega
theorem nless_trans {x y z : It} (h : itLess x y = false) (g : itLess y z = false) : itLess x z = false := by
  simp only [itLess, decide_eq_false_iff_not] at *; omega
theorem nless_less {x y z : It} (h : itLess z y = false) (g : itLess x y = true) : itLess z x = false := by
  simp only [itLess, decide_eq_false_iff_not, decide_eq_true_eq] at *; omega
theorem swapL_get {l : List It} {i j : Nat} {x y : It} (hi : i < l.length) (hj : j < l.length) (k : Nat) : (swapL l i j x y)[k]? = if k = j then some x else if k = i then some y else l[k]? := by
  unfold swapL
  rw [List.getElem?_set, List.getElem?_set]
  by_cases h1 : j = k
  · subst h1; simp [hj]
  · rw [if_neg h1, if_neg (show ¬ k = j from fun h => h1 h.symm)]
    by_cases h2 : i = k
    · subst h2; simp [hi]
    · rw [if_neg h2, if_neg (show ¬ k = i from fun h => h2 h.symm)]
theorem swapL_length (l : List It) (i j : Nat) (x y : It) : (swapL l i j x y).length = l.length := by simp [swapL]
theorem swapL_perm {l : List It} {i j : Nat} {x y : It} (hi : l[i]? = some x) (hj : l[j]? = some y) : (swapL l i j x y).Perm l := by
  obtain ⟨h1, e1⟩ := List.getElem?_eq_some_iff.1 hi
  obtain ⟨h2, e2⟩ := List.getElem?_eq_some_iff.1 hj
  unfold swapL
  rw [← e1, ← e2]
  exact List.set_set_perm h1 h2
/-- Each but place j is not below its parent. -/
def HeapAt (l : List It) (j : Nat) : Prop := ∀ i x y, 1 ≤ i → i ≠ j → l[i]? = some x → l[(i - 1) / 2]? = some y → itLess x y = false
def HeapOK (l : List It) : Prop := ∀ i x y, 1 ≤ i → l[i]? = some x → l[(i - 1) / 2]? = some y → itLess x y = false
/-- While one goes up: it may lie wrong at j alone, and j's children aren't below j's parent. -/
def UpInv (l : List It) (j : Nat) : Prop := HeapAt l j ∧ ∀ i x y, 1 ≤ i → (i - 1) / 2 = j → 1 ≤ j → l[i]? = some x → l[(j - 1) / 2]? = some y → itLess x y = false
theorem UpInv.zero {l : List It} (h : UpInv l 0) : HeapOK l := fun i x y hi hx hy => h.1 i x y hi (by omega) hx hy
theorem UpInv.stay {l : List It} {j : Nat} {x y : It} (h : UpInv l j) (hx : l[j]? = some x) (hy : l[(j - 1) / 2]? = some y) (hl : itLess x y = false) : HeapOK l := fun i a b hi ha hb => by
  by_cases e : i = j
  · subst e
    rw [hx] at ha; rw [hy] at hb
    injection ha with ha; injection hb with hb
    rw [← ha, ← hb]; exact hl
  · exact h.1 i a b hi e ha hb
theorem UpInv.step {l : List It} {j : Nat} {x y : It} (h : UpInv l j) (hj : 1 ≤ j) (hx : l[j]? = some x) (hy : l[(j - 1) / 2]? = some y) (hl : itLess x y = true) : UpInv (swapL l ((j - 1) / 2) j y x) ((j - 1) / 2) := by
  have hjl := (List.getElem?_eq_some_iff.1 hx).1
  have hpl := (List.getElem?_eq_some_iff.1 hy).1
  obtain ⟨p, hp⟩ : ∃ p, (j - 1) / 2 = p := ⟨_, rfl⟩
  have hpj : p < j := by omega
  rw [hp] at hy hpl ⊢
  have G := fun k => swapL_get (x := y) (y := x) hpl hjl k
  constructor
  · intro i a b hi hip ha hb
    rw [G] at ha hb
    rw [if_neg hip] at ha
    by_cases hij : i = j
    · rw [if_pos hij] at ha
      rw [if_neg (by omega), if_pos (by rw [hij]; exact hp)] at hb
      injection ha with ha; injection hb with hb
      rw [← ha, ← hb]; exact less_asymm hl
    · rw [if_neg hij] at ha
      by_cases h1 : (i - 1) / 2 = j
      · rw [if_pos h1] at hb
        injection hb with hb
        rw [← hb]
        exact h.2 i a y hi h1 hj ha (by rw [hp]; exact hy)
      · rw [if_neg h1] at hb
        by_cases h2 : (i - 1) / 2 = p
        · rw [if_pos h2] at hb
          injection hb with hb
          rw [← hb]
          exact nless_less (h.1 i a y hi hij ha (by rw [h2]; exact hy)) hl
        · rw [if_neg h2] at hb
          exact h.1 i a b hi hij ha hb
  · intro i a b hi hip hp1 ha hb
    rw [G] at ha hb
    rw [if_neg (by omega), if_neg (by omega)] at hb
    have hyb := h.1 p y b hp1 (by omega) hy hb
    by_cases hij : i = j
    · rw [if_pos hij] at ha
      injection ha with ha
      rw [← ha]; exact hyb
    · rw [if_neg hij, if_neg (by omega)] at ha
      exact nless_trans (h.1 i a y hi hij ha (by rw [hip]; exact hy)) hyb
theorem UpInv.push {l : List It} (h : HeapOK l) (x : It) : UpInv (l ++ [x]) l.length := by
  have hget : ∀ k a, k ≠ l.length → (l ++ [x])[k]? = some a → l[k]? = some a := fun k a hk ha => by
    have := (List.getElem?_eq_some_iff.1 ha).1
    rw [List.length_append, List.length_singleton] at this
    rwa [List.getElem?_append_left (by omega)] at ha
  constructor
  · intro i a b hi hne ha hb
    have h1 := hget i a hne ha
    have h2 := (List.getElem?_eq_some_iff.1 h1).1
    exact h i a b hi h1 (hget _ b (by omega) hb)
  · intro i a b hi he hj ha hb
    have := (List.getElem?_eq_some_iff.1 ha).1
    rw [List.length_append, List.length_singleton] at this
    omega
/-- The top is below none. -/
theorem HeapOK.top {l : List It} (h : HeapOK l) {x : It} (h0 : l[0]? = some x) : ∀ (i : Nat) y, l[i]? = some y → itLess y x = false := by
  intro i
  induction i using Nat.strongRecOn with
  | ind i ih =>
    intro y hy
    by_cases hi : i = 0
    · subst hi
      rw [h0] at hy; injection hy with hy
      rw [hy]; exact less_irrefl _
    · have hlt := (List.getElem?_eq_some_iff.1 hy).1
      have hp : l[(i - 1) / 2]? = some (l[(i - 1) / 2]'(by omega)) := List.getElem?_eq_getElem (by omega)
      exact nless_trans (h i y _ (by omega) hy hp) (ih _ (by omega) _ hp)
/-- Of the first n each is not below its parent. -/
def HeapTo (l : List It) (n : Nat) : Prop := ∀ (c : Nat) x y, 1 ≤ c → c < n → l[c]? = some x → l[(c - 1) / 2]? = some y → itLess x y = false
/-- While one goes down: it may lie wrong at i's children alone, and these aren't below i's parent. -/
def DownInv (l : List It) (n i : Nat) : Prop := (∀ (c : Nat) x y, 1 ≤ c → c < n → (c - 1) / 2 ≠ i → l[c]? = some x → l[(c - 1) / 2]? = some y → itLess x y = false) ∧
  ∀ (c : Nat) x y, 1 ≤ c → c < n → (c - 1) / 2 = i → 1 ≤ i → l[c]? = some x → l[(i - 1) / 2]? = some y → itLess x y = false
theorem HeapTo.take {l : List It} {n : Nat} (h : HeapTo l n) : HeapOK (l.take n) := fun c x y hc hx hy => by
  have h1 := (List.getElem?_eq_some_iff.1 hx).1
  rw [List.length_take] at h1
  rw [List.getElem?_take_of_lt (by omega)] at hx hy
  exact h c x y hc (by omega) hx hy
theorem DownInv.none {l : List It} {n i : Nat} (h : DownInv l n i) (hn : n ≤ 2 * i + 1) : HeapTo l n := fun c x y hc hcn hx hy => h.1 c x y hc hcn (by omega) hx hy
/-- j is i's least child. -/
def Least (l : List It) (n i j : Nat) : Prop := (j - 1) / 2 = i ∧ 1 ≤ j ∧ j < n ∧ ∀ (c : Nat) x y, 1 ≤ c → c < n → (c - 1) / 2 = i → l[c]? = some x → l[j]? = some y → itLess x y = false
theorem DownInv.stay {l : List It} {n i j : Nat} {x y : It} (h : DownInv l n i) (hL : Least l n i j) (hy : l[j]? = some y) (hx : l[i]? = some x) (hl : itLess y x = false) : HeapTo l n := fun c a b hc hcn ha hb => by
  by_cases e : (c - 1) / 2 = i
  · rw [e, hx] at hb
    injection hb with hb
    rw [← hb]
    exact nless_trans (hL.2.2.2 c a y hc hcn e ha hy) hl
  · exact h.1 c a b hc hcn e ha hb
theorem DownInv.step {l : List It} {n i j : Nat} {x y : It} (h : DownInv l n i) (hL : Least l n i j) (hx : l[i]? = some x) (hy : l[j]? = some y) (hl : itLess y x = true) : DownInv (swapL l i j x y) n j := by
  have hil := (List.getElem?_eq_some_iff.1 hx).1
  have hjl := (List.getElem?_eq_some_iff.1 hy).1
  obtain ⟨hp, hj1, hjn, hmin⟩ := hL
  have hij : i < j := by omega
  have G := fun k => swapL_get (x := x) (y := y) hil hjl k
  constructor
  · intro c a b hc hcn hcj ha hb
    rw [G] at ha hb
    rw [if_neg hcj] at hb
    by_cases e1 : c = j
    · rw [if_pos e1] at ha
      rw [if_pos (by rw [e1]; exact hp)] at hb
      injection ha with ha; injection hb with hb
      rw [← ha, ← hb]; exact less_asymm hl
    · rw [if_neg e1] at ha
      by_cases e2 : (c - 1) / 2 = i
      · rw [if_pos e2] at hb
        rw [if_neg (by omega)] at ha
        injection hb with hb
        rw [← hb]
        exact hmin c a y hc hcn e2 ha hy
      · rw [if_neg e2] at hb
        by_cases e3 : c = i
        · rw [if_pos e3] at ha
          injection ha with ha
          rw [← ha]
          exact h.2 j y b hj1 hjn hp (by omega) hy (by rw [← e3]; exact hb)
        · rw [if_neg e3] at ha
          exact h.1 c a b hc hcn e2 ha hb
  · intro c a b hc hcn hcj hj ha hb
    rw [G] at ha hb
    rw [if_neg (by omega), if_neg (by omega)] at ha
    rw [hp, if_neg (by omega), if_pos rfl] at hb
    injection hb with hb
    rw [← hb]
    exact h.1 c a y hc hcn (by omega) ha (by rw [hcj]; exact hy)
/-- The last one has been laid on top. -/
theorem DownInv.start {l : List It} (h : HeapOK l) {n : Nat} (hn : n + 1 = l.length) {x z : It} (hx : l[0]? = some x) (hz : l[n]? = some z) : DownInv (swapL l 0 n x z) n 0 := by
  have h0l := (List.getElem?_eq_some_iff.1 hx).1
  have hnl := (List.getElem?_eq_some_iff.1 hz).1
  have G := fun k => swapL_get (x := x) (y := z) h0l hnl k
  constructor
  · intro c a b hc hcn h1 ha hb
    rw [G] at ha hb
    rw [if_neg (by omega), if_neg (by omega)] at ha
    rw [if_neg (by omega), if_neg (by omega)] at hb
    exact h c a b hc ha hb
  · intro c a b hc hcn h1 h2
    omega
end Go.Proofs.YtihidnmpngeohaaGreat
namespace Go.Proofs.YtihidnmpngeohaaGreat

/-- A sample with its list and its place. -/
structure Tg where
  t : Int
  v : Int
  rank : Int
  idx : Nat
def tle (a b : Tg) : Bool := decide (a.t < b.t ∨ (a.t = b.t ∧ (a.rank < b.rank ∨ (a.rank = b.rank ∧ (a.idx < b.idx ∨ (a.idx = b.idx ∧ a.v ≤ b.v))))))
theorem tle_trans (a b c : Tg) (h : tle a b = true) (g : tle b c = true) : tle a c = true := by
  simp only [tle, decide_eq_true_eq] at *; omega
theorem tle_total (a b : Tg) : (tle a b || tle b a) = true := by
  simp only [tle, Bool.or_eq_true, decide_eq_true_eq]; omega
theorem tle_anti {a b : Tg} (h : tle a b = true) (g : tle b a = true) : a = b := by
  simp only [tle, decide_eq_true_eq] at *
  cases a; cases b
  simp only [Tg.mk.injEq] at *
  omega
def sortT (l : List Tg) : List Tg := l.mergeSort tle
theorem sortT_sorted (l : List Tg) : (sortT l).Pairwise (fun a b => tle a b = true) := List.pairwise_mergeSort tle_trans tle_total l
theorem sortT_perm (l : List Tg) : (sortT l).Perm l := List.mergeSort_perm l tle
theorem sorted_unique : ∀ {l m : List Tg}, l.Pairwise (fun a b => tle a b = true) → m.Pairwise (fun a b => tle a b = true) → l.Perm m → l = m := fun hl hm hp =>
  hp.eq_of_pairwise (fun _ _ _ _ h g => tle_anti h g) hl hm
theorem sortT_congr {l m : List Tg} (h : l.Perm m) : sortT l = sortT m := sorted_unique (sortT_sorted l) (sortT_sorted m) ((sortT_perm l).trans (h.trans (sortT_perm m).symm))
theorem sortT_cons {x : Tg} {l : List Tg} (h : ∀ y ∈ l, tle x y = true) : sortT (x :: l) = x :: sortT l :=
  sorted_unique (sortT_sorted _) (List.pairwise_cons.2 ⟨fun y hy => h y ((sortT_perm l).mem_iff.1 hy), sortT_sorted l⟩) ((sortT_perm _).trans ((sortT_perm l).symm.cons x))
/-- A list's samples from place i on. -/
def tagsFrom (rank : Int) : Nat → List (Int × Int) → List Tg
  | _, [] => []
  | i, x :: r => ⟨x.1, x.2, rank, i⟩ :: tagsFrom rank (i + 1) r
/-- One list in line: its first sample, its place, what comes behind. -/
structure Src where
  it : It
  i : Nat
  rest : List (Int × Int)
def Src.tg (s : Src) : Tg := ⟨s.it.t, s.it.v, s.it.rank, s.i⟩
def Src.flow (s : Src) : List Tg := s.tg :: tagsFrom s.it.rank (s.i + 1) s.rest
/-- A list rises. -/
def Rises (xs : List (Int × Int)) : Prop := xs.Pairwise (fun x y => x.1 ≤ y.1)
def Src.ok (s : Src) : Prop := Rises ((s.it.t, s.it.v) :: s.rest)
theorem tags_ge {rank : Int} {a : Tg} : ∀ {i : Nat} {xs : List (Int × Int)}, (∀ x ∈ xs, a.t ≤ x.1) → a.rank ≤ rank → (a.rank = rank → a.idx < i) → ∀ y ∈ tagsFrom rank i xs, tle a y = true
  | _, [], _, _, _, y, hy => by simp [tagsFrom] at hy
  | i, x :: r, h1, h2, h3, y, hy => by
    rcases List.mem_cons.1 hy with rfl | hy
    · have := h1 x List.mem_cons_self
      simp only [tle, decide_eq_true_eq]
      by_cases e : a.rank = rank
      · have := h3 e; omega
      · omega
    · exact tags_ge (i := i + 1) (xs := r) (fun z hz => h1 z (List.mem_cons_of_mem _ hz)) h2 (fun e => by have := h3 e; omega) y hy
theorem Src.least {s : Src} (h : s.ok) : ∀ y ∈ s.flow, tle s.tg y = true := by
  intro y hy
  rcases List.mem_cons.1 hy with rfl | hy
  · simp [tle]
  · exact tags_ge (fun x hx => (List.pairwise_cons.1 h).1 x hx) (Int.le_refl _) (fun _ => Nat.lt_succ_self _) y hy
/-- The item that is below none comes first of all that stands in line. -/
theorem least_of_all {s : Src} {ss : List Src} (hs : s.ok) (hss : ∀ u ∈ ss, u.ok) (hmin : ∀ u ∈ ss, itLess u.it s.it = false) (hne : ∀ u ∈ ss, u.it.rank ≠ s.it.rank) : ∀ y ∈ (tagsFrom s.it.rank (s.i + 1) s.rest) ++ ss.flatMap Src.flow, tle s.tg y = true := by
  intro y hy
  rcases List.mem_append.1 hy with hy | hy
  · exact Src.least hs y (List.mem_cons_of_mem _ hy)
  · obtain ⟨u, hu, hyu⟩ := List.mem_flatMap.1 hy
    refine tle_trans _ u.tg _ ?_ (Src.least (hss u hu) y hyu)
    have h1 := hmin u hu
    have h2 := hne u hu
    simp only [itLess, decide_eq_false_iff_not] at h1
    unfold tle Src.tg
    rw [decide_eq_true_eq]
    simp only []
    omega
/-- One sample is put behind the rising ones. -/
def outStep (o : List (Int × Int)) (x : Int × Int) : List (Int × Int) :=
  match o.getLast? with
  | some y => if y.1 = x.1 then o.dropLast ++ [x] else o ++ [x]
  | none => [x]
def collapse (p : List Tg) : List (Int × Int) := (p.map fun a => (a.t, a.v)).foldl outStep []
theorem collapse_snoc (p : List Tg) (a : Tg) : collapse (p ++ [a]) = outStep (collapse p) (a.t, a.v) := by simp [collapse, List.map_append, List.foldl_append]
theorem outStep_nil (x : Int × Int) : outStep [] x = [x] := rfl
theorem outStep_same (o : List (Int × Int)) (y x : Int × Int) (h : y.1 = x.1) : outStep (o ++ [y]) x = o ++ [x] := by
  unfold outStep
  rw [List.getLast?_concat]
  simp only []
  rw [if_pos h, List.dropLast_concat]
theorem outStep_new (o : List (Int × Int)) (y x : Int × Int) (h : ¬ y.1 = x.1) : outStep (o ++ [y]) x = o ++ [y] ++ [x] := by
  unfold outStep
  rw [List.getLast?_concat]
  simp only []
  rw [if_neg h]
theorem outStep_len (o : List (Int × Int)) (x : Int × Int) : (outStep o x).length ≤ o.length + 1 := by
  unfold outStep
  split
  · rename_i y hy
    have : o ≠ [] := by rintro rfl; simp at hy
    have := List.length_pos_iff.2 this
    split
    · simp; try omega
    · simp
  · simp
theorem collapse_len (p : List Tg) : (collapse p).length ≤ p.length := by
  suffices ∀ (l : List (Int × Int)) (o : List (Int × Int)), (l.foldl outStep o).length ≤ o.length + l.length by
    have := this (p.map fun a => (a.t, a.v)) []
    simpa [collapse] using this
  intro l
  induction l with
  | nil => intro o; simp
  | cons x l ih =>
    intro o
    have h1 := ih (outStep o x)
    have h2 := outStep_len o x
    simp only [List.foldl_cons, List.length_cons]
    omega
theorem tags_length (rank : Int) : ∀ (i : Nat) (xs : List (Int × Int)), (tagsFrom rank i xs).length = xs.length
  | _, [] => rfl
  | i, _ :: r => by simp [tagsFrom, tags_length rank (i + 1) r]
theorem flow_length {ss ss' : List Src} {s : Src} (h : ss.Perm (s :: ss')) : (ss.flatMap Src.flow).length = s.rest.length + 1 + (ss'.flatMap Src.flow).length := by
  rw [(List.Perm.flatMap_right Src.flow h).length_eq, List.flatMap_cons, List.length_append]
  simp only [Src.flow, List.length_cons, tags_length]
/-- A list's samples by their times, those of one time in their order. -/
def sortS (xs : List (Int × Int)) : List (Int × Int) := xs.mergeSort fun a b => decide (a.1 ≤ b.1)
theorem sortS_rises (xs : List (Int × Int)) : Rises (sortS xs) := by
  have h := List.pairwise_mergeSort (le := fun a b : Int × Int => decide (a.1 ≤ b.1)) (fun a b c h g => by simp only [decide_eq_true_eq] at *; omega) (fun a b => by simp only [Bool.or_eq_true, decide_eq_true_eq]; omega) xs
  exact h.imp fun h => by simpa using h
theorem sortS_length (xs : List (Int × Int)) : (sortS xs).length = xs.length := List.length_mergeSort xs
/-- All lists' samples, with their lists and places. -/
def tagAll : Nat → List (List (Int × Int)) → List Tg
  | _, [] => []
  | i, xs :: r => tagsFrom (i : Int) 0 (sortS xs) ++ tagAll (i + 1) r
theorem tagAll_snoc (xs : List (Int × Int)) : ∀ (i : Nat) (ls : List (List (Int × Int))), tagAll i (ls ++ [xs]) = tagAll i ls ++ tagsFrom ((i + ls.length : Nat) : Int) 0 (sortS xs)
  | i, [] => by simp [tagAll]
  | i, y :: ls => by
    rw [List.cons_append, tagAll, tagAll, tagAll_snoc xs (i + 1) ls, List.append_assoc, List.length_cons]
    congr 4
    omega
theorem tagAll_take {ls : List (List (Int × Int))} {k : Nat} {xs : List (Int × Int)} (h : ls[k]? = some xs) : tagAll 0 (ls.take (k + 1)) = tagAll 0 (ls.take k) ++ tagsFrom (k : Int) 0 (sortS xs) := by
  obtain ⟨hk, e⟩ := List.getElem?_eq_some_iff.1 h
  rw [List.take_succ_eq_append_getElem hk, e, tagAll_snoc, List.length_take, Nat.zero_add, Nat.min_eq_left (by omega)]
end Go.Proofs.YtihidnmpngeohaaGreat
namespace Go.Proofs.YtihidnmpngeohaaGreat

/-- The value of the last sample of a time. -/
def lastV (l : List (Int × Int)) (t : Int) : Option Int := ((l.filter fun x => x.1 == t).getLast?).map (·.2)
theorem lastV_nil (t : Int) : lastV [] t = none := rfl
theorem lastV_snoc (l : List (Int × Int)) (x : Int × Int) (t : Int) : lastV (l ++ [x]) t = if x.1 = t then some x.2 else lastV l t := by
  unfold lastV
  by_cases h : x.1 = t
  · rw [if_pos h, List.filter_append]; simp [h]
  · rw [if_neg h, List.filter_append]; simp [h]
def Strict (l : List (Int × Int)) : Prop := l.Pairwise (fun x y => x.1 < y.1)
/-- The rising samples that lists make together: of each time the last one. -/
def Of (r all : List (Int × Int)) : Prop := Strict r ∧ ∀ x, x ∈ r ↔ lastV all x.1 = some x.2
theorem Of.nil : Of [] [] := ⟨List.Pairwise.nil, fun x => by simp [lastV_nil]⟩
theorem strict_unique {l m : List (Int × Int)} (hl : Strict l) (hm : Strict m) (h : ∀ x, x ∈ l ↔ x ∈ m) : l = m := by
  have nl : l.Nodup := hl.imp fun h e => by rw [e] at h; omega
  have nm : m.Nodup := hm.imp fun h e => by rw [e] at h; omega
  have hp : l.Perm m := (List.perm_ext_iff_of_nodup nl nm).2 h
  exact hp.eq_of_pairwise (fun _ _ _ _ h g => by omega) hl hm
theorem Of.unique {r r' all : List (Int × Int)} (h : Of r all) (h' : Of r' all) : r = r' := strict_unique h.1 h'.1 fun x => (h.2 x).trans (h'.2 x).symm
theorem Of.congr {r all all' : List (Int × Int)} (h : Of r all) (he : ∀ t, lastV all t = lastV all' t) : Of r all' := ⟨h.1, fun x => by rw [h.2 x, he]⟩
theorem Of.out {o all : List (Int × Int)} {x : Int × Int} (h : Of o all) (hle : ∀ y ∈ o, y.1 ≤ x.1) : Of (outStep o x) (all ++ [x]) ∧ ∀ y ∈ outStep o x, y.1 ≤ x.1 := by
  rcases (show o = [] ∨ ∃ o' y, o = o' ++ [y] by
    rcases List.eq_nil_or_concat o with h | ⟨o', y, h⟩
    · exact .inl h
    · exact .inr ⟨o', y, by rw [h, List.concat_eq_append]⟩) with rfl | ⟨o', y, rfl⟩
  · rw [outStep_nil]
    refine ⟨⟨List.pairwise_singleton _ _, fun z => ?_⟩, fun z hz => by rw [List.mem_singleton.1 hz]; exact Int.le_refl _⟩
    have := h.2 z
    rw [lastV_snoc, List.mem_singleton]
    by_cases e : x.1 = z.1
    · rw [if_pos e]
      exact ⟨fun q => by rw [q], fun q => Prod.ext e.symm (Option.some.inj q).symm⟩
    · rw [if_neg e, ← this]
      exact ⟨fun q => absurd (by rw [q]) e, fun q => by cases q⟩
  · have hpw := List.pairwise_append.1 h.1
    have hy := hle y (by simp)
    have hlt : ∀ z ∈ o', z.1 < x.1 := fun z hz => by have := hpw.2.2 z hz y (List.mem_singleton.2 rfl); omega
    by_cases e : y.1 = x.1
    · rw [outStep_same o' y x e]
      refine ⟨⟨List.pairwise_append.2 ⟨hpw.1, List.pairwise_singleton _ _, fun a ha b hb => by rw [List.mem_singleton.1 hb]; exact hlt a ha⟩, fun z => ?_⟩, fun z hz => ?_⟩
      · have := h.2 z
        rw [lastV_snoc, List.mem_append, List.mem_singleton]
        rw [List.mem_append, List.mem_singleton] at this
        by_cases q : x.1 = z.1
        · rw [if_pos q]
          exact ⟨fun c => by rcases c with c | c
                             · have := hlt z c; omega
                             · rw [c], fun c => .inr (Prod.ext q.symm (Option.some.inj c).symm)⟩
        · rw [if_neg q, ← this]
          exact ⟨fun c => by rcases c with c | c
                             · exact .inl c
                             · exact absurd (by rw [c]) q, fun c => by rcases c with c | c
                                                                       · exact .inl c
                                                                       · exact absurd (by rw [c]; exact e.symm) q⟩
      · rcases List.mem_append.1 hz with hz | hz
        · exact Int.le_of_lt (hlt z hz)
        · rw [List.mem_singleton.1 hz]; exact Int.le_refl _
    · rw [outStep_new o' y x e]
      have hall : ∀ z ∈ o' ++ [y], z.1 < x.1 := fun z hz => by
        rcases List.mem_append.1 hz with hz | hz
        · exact hlt z hz
        · rw [List.mem_singleton.1 hz]; omega
      refine ⟨⟨List.pairwise_append.2 ⟨h.1, List.pairwise_singleton _ _, fun a ha b hb => by rw [List.mem_singleton.1 hb]; exact hall a ha⟩, fun z => ?_⟩, fun z hz => ?_⟩
      · have := h.2 z
        rw [lastV_snoc, List.mem_append (s := o' ++ [y]), List.mem_singleton]
        by_cases q : x.1 = z.1
        · rw [if_pos q]
          exact ⟨fun c => by rcases c with c | c
                             · have := hall z c; omega
                             · rw [c], fun c => .inr (Prod.ext q.symm (Option.some.inj c).symm)⟩
        · rw [if_neg q, ← this]
          exact ⟨fun c => by rcases c with c | c
                             · exact c
                             · exact absurd (by rw [c]) q, .inl⟩
      · rcases List.mem_append.1 hz with hz | hz
        · exact Int.le_of_lt (hall z hz)
        · rw [List.mem_singleton.1 hz]; exact Int.le_refl _
/-- Rising samples, put out one by one. -/
theorem collapse_of {p : List (Int × Int)} (hp : p.Pairwise (fun x y => x.1 ≤ y.1)) : Of (p.foldl outStep []) p := by
  suffices H : ∀ (q : List (Int × Int)) (o all : List (Int × Int)), q.Pairwise (fun x y => x.1 ≤ y.1) → Of o all → (∀ y ∈ o, ∀ x ∈ q, y.1 ≤ x.1) → Of (q.foldl outStep o) (all ++ q) by
    exact H p [] [] hp Of.nil (fun y hy => by cases hy)
  intro q
  induction q with
  | nil => intro o all _ h _; rw [List.append_nil]; exact h
  | cons x q ih =>
    intro o all hq h hb
    have hq' := List.pairwise_cons.1 hq
    obtain ⟨h1, h2⟩ := h.out (x := x) (fun y hy => hb y hy x List.mem_cons_self)
    have := ih (outStep o x) (all ++ [x]) hq'.2 h1 (fun y hy z hz => Int.le_trans (h2 y hy) (hq'.1 z hz))
    rw [List.append_assoc] at this
    exact this
/-- Where a sample comes to lie. -/
def cut (l : List (Int × Int)) (t : Int) : Nat → Nat
  | 0 => 0
  | k + 1 => match l[k]? with
    | some x => if t ≤ x.1 then cut l t k else k + 1
    | none => k + 1
theorem cut_le (l : List (Int × Int)) (t : Int) : ∀ k, cut l t k ≤ k
  | 0 => Nat.le_refl _
  | k + 1 => by
    unfold cut
    split
    · split
      · exact Nat.le_succ_of_le (cut_le l t k)
      · exact Nat.le_refl _
    · exact Nat.le_refl _
theorem cut_go {l : List (Int × Int)} {t : Int} {k : Nat} {x : Int × Int} (hx : l[k]? = some x) (h : t ≤ x.1) : cut l t (k + 1) = cut l t k := by
  rw [cut, hx]; exact if_pos h
theorem cut_stop {l : List (Int × Int)} {t : Int} {k : Nat} {x : Int × Int} (hx : l[k]? = some x) (h : ¬ t ≤ x.1) : cut l t (k + 1) = k + 1 := by
  rw [cut, hx]; exact if_neg h
theorem cut_below {l : List (Int × Int)} {t : Int} (hs : Strict l) : ∀ k, k ≤ l.length → ∀ i (hi : i < l.length), i < cut l t k → l[i].1 < t
  | 0, _, i, _, h => by simp [cut] at h
  | k + 1, hk, i, hi, h => by
    have hx : l[k]? = some l[k] := List.getElem?_eq_getElem (by omega)
    by_cases q : t ≤ l[k].1
    · rw [cut_go hx q] at h
      exact cut_below hs k (by omega) i hi h
    · rw [cut_stop hx q] at h
      by_cases e : i = k
      · subst e; omega
      · have := List.pairwise_iff_getElem.1 hs i k hi (by omega) (by omega); omega
theorem cut_above {l : List (Int × Int)} {t : Int} : ∀ k, k ≤ l.length → ∀ i (hi : i < l.length), cut l t k ≤ i → i < k → t ≤ l[i].1
  | 0, _, i, _, _, h => by omega
  | k + 1, hk, i, hi, h, h' => by
    have hx : l[k]? = some l[k] := List.getElem?_eq_getElem (by omega)
    by_cases q : t ≤ l[k].1
    · rw [cut_go hx q] at h
      by_cases e : i = k
      · subst e; exact q
      · exact cut_above k (by omega) i hi h (by omega)
    · rw [cut_stop hx q] at h; omega
/-- A sample at its place, in the place of one of its time. -/
def putIn (l : List (Int × Int)) (s : Int × Int) : List (Int × Int) :=
  let k := cut l s.1 l.length
  l.take k ++ s :: (match l[k]? with
    | some x => if x.1 = s.1 then l.drop (k + 1) else l.drop k
    | none => [])
theorem Of.put {r all : List (Int × Int)} (h : Of r all) (s : Int × Int) : Of (putIn r s) (all ++ [s]) := by
  obtain ⟨k, hk⟩ : ∃ k, cut r s.1 r.length = k := ⟨_, rfl⟩
  have hb : ∀ x ∈ r.take k, x.1 < s.1 := fun x hx => by
    obtain ⟨i, hi, e⟩ := List.mem_take_iff_getElem.1 hx
    rw [← e]
    exact cut_below h.1 r.length (Nat.le_refl _) i (by omega) (by rw [hk]; omega)
  have ha : ∀ x ∈ r.drop k, s.1 ≤ x.1 := fun x hx => by
    obtain ⟨i, hi, e⟩ := List.mem_drop_iff_getElem.1 hx
    rw [← e]
    exact cut_above r.length (Nat.le_refl _) _ (by omega) (by omega) (by omega)
  have hsplit : r = r.take k ++ r.drop k := (List.take_append_drop k r).symm
  -- what lies behind it
  obtain ⟨b, hb2⟩ : ∃ b, (match r[k]? with | some x => if x.1 = s.1 then r.drop (k + 1) else r.drop k | none => []) = b := ⟨_, rfl⟩
  have hpr := h.1
  rw [hsplit] at hpr
  have hpd := List.pairwise_append.1 hpr
  have hbb : b.Pairwise (fun x y => x.1 < y.1) ∧ (∀ x ∈ b, s.1 < x.1) ∧ (∀ x, s.1 ≠ x.1 → (x ∈ b ↔ x ∈ r.drop k)) := by
    cases hr : r[k]? with
    | none =>
      rw [hr] at hb2
      have : r.drop k = [] := List.drop_eq_nil_of_le (by simpa using hr)
      rw [← hb2, this]
      exact ⟨List.Pairwise.nil, fun x hx => (by cases hx), fun x _ => Iff.rfl⟩
    | some y =>
      rw [hr] at hb2
      obtain ⟨hkl, hy⟩ := List.getElem?_eq_some_iff.1 hr
      have hd : r.drop k = y :: r.drop (k + 1) := by rw [← hy]; exact List.drop_eq_getElem_cons hkl
      have hc := List.pairwise_cons.1 (hd ▸ hpd.2.1)
      by_cases e : y.1 = s.1
      · simp only [if_pos e] at hb2
        rw [← hb2, hd]
        refine ⟨hc.2, fun x hx => by have := hc.1 x hx; omega, fun x hx => ⟨List.mem_cons_of_mem _, fun q => ?_⟩⟩
        rcases List.mem_cons.1 q with q | q
        · exact absurd (by rw [q]; exact e.symm) hx
        · exact q
      · simp only [if_neg e] at hb2
        rw [← hb2]
        refine ⟨hpd.2.1, fun x hx => ?_, fun x _ => Iff.rfl⟩
        have h1 := ha x hx
        rw [hd] at hx
        have h2 := ha y (by rw [hd]; exact List.mem_cons_self)
        rcases List.mem_cons.1 hx with q | q
        · rw [q]; omega
        · have := hc.1 x q; omega
  have hput : putIn r s = r.take k ++ s :: b := by unfold putIn; rw [← hb2, hk]
  rw [hput]
  refine ⟨List.pairwise_append.2 ⟨hpd.1, List.pairwise_cons.2 ⟨hbb.2.1, hbb.1⟩, fun x hx y hy => ?_⟩, fun x => ?_⟩
  · have h1 := hb x hx
    rcases List.mem_cons.1 hy with q | q
    · rw [q]; exact h1
    · have := hbb.2.1 y q; omega
  · rw [lastV_snoc, List.mem_append, List.mem_cons]
    by_cases e : s.1 = x.1
    · rw [if_pos e]
      constructor
      · rintro (c | c | c)
        · have := hb x c; omega
        · rw [c]
        · have := hbb.2.1 x c; omega
      · exact fun c => .inr (.inl (Prod.ext e.symm (Option.some.inj c).symm))
    · rw [if_neg e, ← h.2 x]
      have hm : x ∈ r ↔ x ∈ r.take k ∨ x ∈ r.drop k := by conv => lhs; rw [hsplit]
                                                          exact List.mem_append
      rw [hm, hbb.2.2 x e]
      exact ⟨fun c => by rcases c with c | c | c
                         · exact .inl c
                         · exact absurd (by rw [c]) e
                         · exact .inr c, fun c => by rcases c with c | c
                                                     · exact .inl c
                                                     · exact .inr (.inr c)⟩
theorem puts_of (all : List (Int × Int)) : Of (all.foldl putIn []) all := by
  suffices H : ∀ (q o a : List (Int × Int)), Of o a → Of (q.foldl putIn o) (a ++ q) from H all [] [] Of.nil
  intro q
  induction q with
  | nil => intro o a h; rw [List.append_nil]; exact h
  | cons x q ih =>
    intro o a h
    have := ih _ _ (h.put x)
    rw [List.append_assoc] at this
    exact this
/-! ### The samples of all lists, sorted by their tags -/
theorem filter_stable (xs : List (Int × Int)) (t : Int) : (sortS xs).filter (fun x => x.1 == t) = xs.filter (fun x => x.1 == t) := by
  have h1 : (xs.filter (fun x => x.1 == t)).Sublist (sortS xs) := by
    refine List.sublist_mergeSort (fun a b c h g => by simp only [decide_eq_true_eq] at *; omega) (fun a b => by simp only [Bool.or_eq_true, decide_eq_true_eq]; omega) ?_ (List.filter_sublist)
    rw [List.pairwise_iff_getElem]
    intro i j hi hj _
    have h1 := (List.mem_filter.1 (List.getElem_mem hi)).2
    have h2 := (List.mem_filter.1 (List.getElem_mem hj)).2
    simp only [beq_iff_eq] at h1 h2
    simp only [decide_eq_true_eq]
    omega
  have h2 := h1.filter (fun x => x.1 == t)
  rw [List.filter_filter] at h2
  simp only [Bool.and_self] at h2
  refine (h2.eq_of_length ?_).symm
  exact ((List.mergeSort_perm xs _).filter _).length_eq.symm
theorem tags_map (rank : Int) : ∀ (i : Nat) (xs : List (Int × Int)), (tagsFrom rank i xs).map (fun a => (a.t, a.v)) = xs
  | _, [] => rfl
  | i, x :: r => by rw [tagsFrom, List.map_cons, tags_map rank (i + 1) r]
theorem tags_rank (rank : Int) : ∀ (i : Nat) (xs : List (Int × Int)), ∀ a ∈ tagsFrom rank i xs, a.rank = rank ∧ i ≤ a.idx
  | _, [], a, h => by cases h
  | i, x :: r, a, h => by
    rcases List.mem_cons.1 h with h | h
    · rw [h]; exact ⟨rfl, Nat.le_refl _⟩
    · have := tags_rank rank (i + 1) r a h; exact ⟨this.1, by omega⟩
theorem tags_rise (rank : Int) : ∀ (i : Nat) (xs : List (Int × Int)), (tagsFrom rank i xs).Pairwise (fun a b => a.rank = b.rank ∧ a.idx < b.idx)
  | _, [] => List.Pairwise.nil
  | i, x :: r => List.pairwise_cons.2 ⟨fun b hb => by have := tags_rank rank (i + 1) r b hb; exact ⟨this.1.symm, by show i < b.idx; omega⟩, tags_rise rank (i + 1) r⟩
theorem tagAll_rank : ∀ (i : Nat) (ls : List (List (Int × Int))), ∀ a ∈ tagAll i ls, (i : Int) ≤ a.rank
  | _, [], a, h => by cases h
  | i, xs :: r, a, h => by
    rcases List.mem_append.1 h with h | h
    · rw [(tags_rank _ _ _ a h).1]; exact Int.le_refl _
    · have := tagAll_rank (i + 1) r a h; omega
theorem tagAll_rise : ∀ (i : Nat) (ls : List (List (Int × Int))), (tagAll i ls).Pairwise (fun a b => a.rank < b.rank ∨ (a.rank = b.rank ∧ a.idx < b.idx))
  | _, [] => List.Pairwise.nil
  | i, xs :: r => List.pairwise_append.2 ⟨(tags_rise _ _ _).imp fun h => .inr h, tagAll_rise (i + 1) r, fun a ha b hb => .inl (by
      have h1 := (tags_rank _ _ _ a ha).1
      have h2 := tagAll_rank (i + 1) r b hb
      omega)⟩
theorem sortT_filter (ls : List (List (Int × Int))) (t : Int) : (sortT (tagAll 0 ls)).filter (fun a => a.t == t) = (tagAll 0 ls).filter (fun a => a.t == t) := by
  refine sorted_unique ((sortT_sorted _).filter _) ?_ ((sortT_perm _).filter _)
  have h := (tagAll_rise 0 ls).filter (fun a => a.t == t)
  rw [List.pairwise_iff_getElem] at h ⊢
  intro i j hi hj hij
  have h1 := (List.mem_filter.1 (List.getElem_mem hi)).2
  have h2 := (List.mem_filter.1 (List.getElem_mem hj)).2
  have h3 := h i j hi hj hij
  simp only [beq_iff_eq] at h1 h2
  unfold tle
  rw [decide_eq_true_eq]
  omega
theorem tagAll_filter (t : Int) : ∀ (i : Nat) (ls : List (List (Int × Int))), ((tagAll i ls).map (fun a => (a.t, a.v))).filter (fun x => x.1 == t) = ls.flatten.filter (fun x => x.1 == t)
  | _, [] => rfl
  | i, xs :: r => by
    rw [tagAll, List.map_append, List.filter_append, tags_map, filter_stable, tagAll_filter t (i + 1) r, List.flatten_cons, List.filter_append]
theorem lastV_sorted (ls : List (List (Int × Int))) (t : Int) : lastV ((sortT (tagAll 0 ls)).map fun a => (a.t, a.v)) t = lastV ls.flatten t := by
  unfold lastV
  rw [← tagAll_filter t 0 ls, List.filter_map, List.filter_map]
  show (Option.map _ (List.getLast? (List.map _ ((sortT (tagAll 0 ls)).filter (fun a => a.t == t))))) = (Option.map _ (List.getLast? (List.map _ ((tagAll 0 ls).filter (fun a => a.t == t)))))
  rw [sortT_filter]
/-- What merge.Samples puts together is what the document says. -/
theorem samples_law (ls : List (List (Int × Int))) : collapse (sortT (tagAll 0 ls)) = ls.flatten.foldl putIn [] := by
  refine Of.unique (all := ls.flatten) ?_ (puts_of _)
  refine Of.congr (collapse_of ?_) (lastV_sorted ls)
  rw [List.pairwise_map]
  refine (sortT_sorted _).imp fun {a b} h => ?_
  simp only [tle, decide_eq_true_eq] at h
  show a.t ≤ b.t
  omega
end Go.Proofs.YtihidnmpngeohaaGreat
