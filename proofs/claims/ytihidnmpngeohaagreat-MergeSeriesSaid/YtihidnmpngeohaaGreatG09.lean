/- Plain laws of the binary heap of items: a step up, a step down. No program. Plain laws of the merge: what stands in line, sorted by time, list and place. No program. -/
import Derived.Test.YtihidnmpngeohaaGreatQueue
namespace Go.Proofs.YtihidnmpngeohaaGreat

theorem less_irrefl (x : It) : itLess x x = false := by simp [itLess]
theorem less_asymm {x y : It} (h : itLess x y = true) : itLess y x = false := by
  simp only [itLess, decide_eq_true_eq, decide_eq_false_iff_not] at *; omega
theorem less_trans {x y z : It} (h : itLess x y = true) (g : itLess y z = true) : itLess x z = true := by
  simp only [itLess, decide_eq_true_eq] at *; omega
theorem nless_trans {x y z : It} (h : itLess x y = false) (g : itLess y z = false) : itLess x z = false := by
  simp only [itLess, decide_eq_false_iff_not] at *; omega
theorem nless_less {x y z : It} (h : itLess z y = false) (g : itLess x y = true) : itLess z x = false := by
  simp only [itLess, decide_eq_false_iff_not, decide_eq_true_eq] at *; omega
theorem swapL_get {l : List It} {i j : Nat} {x y : It} (hi : i < l.length) (hj : j < l.length) (k : Nat) : (swapL l i j x y)[k]? = if k = j then some x else if k = i then some y else l[k]? := by
  unfold swapL
  rw [List.getElem?_set, List.getElem?_set]
  by_cases h1 : j = k
  · subst h1; simp [hj]
  · rw [if_neg h1, if_neg (show ¬ k = j from fun h => h1 h.symm)]
    by_cases h2 : i = k
    · subst h2; simp [hi]
    · rw [if_neg h2, if_neg (show ¬ k = i from fun h => h2 h.symm)]
theorem swapL_length (l : List It) (i j : Nat) (x y : It) : (swapL l i j x y).length = l.length := by simp [swapL]
theorem swapL_perm {l : List It} {i j : Nat} {x y : It} (hi : l[i]? = some x) (hj : l[j]? = some y) : (swapL l i j x y).Perm l := by
  obtain ⟨h1, e1⟩ := List.getElem?_eq_some_iff.1 hi
  obtain ⟨h2, e2⟩ := List.getElem?_eq_some_iff.1 hj
  unfold swapL
  rw [← e1, ← e2]
  exact List.set_set_perm h1 h2
/-- Each but place j is not below its parent. -/
def HeapAt (l : List It) (j : Nat) : Prop := ∀ i x y, 1 ≤ i → i ≠ j → l[i]? = some x → l[(i - 1) / 2]? = some y → itLess x y = false
def HeapOK (l : List It) : Prop := ∀ i x y, 1 ≤ i → l[i]? = some x → l[(i - 1) / 2]? = some y → itLess x y = false
/-- While one goes up: it may lie wrong at j alone, and j's children aren't below j's parent. -/
def UpInv (l : List It) (j : Nat) : Prop := HeapAt l j ∧ ∀ i x y, 1 ≤ i → (i - 1) / 2 = j → 1 ≤ j → l[i]? = some x → l[(j - 1) / 2]? = some y → itLess x y = false
theorem UpInv.zero {l : List It} (h : UpInv l 0) : HeapOK l := fun i x y hi hx hy => h.1 i x y hi (by omega) hx hy
theorem UpInv.stay {l : List It} {j : Nat} {x y : It} (h : UpInv l j) (hx : l[j]? = some x) (hy : l[(j - 1) / 2]? = some y) (hl : itLess x y = false) : HeapOK l := fun i a b hi ha hb => by
  by_cases e : i = j
  · subst e
    rw [hx] at ha; rw [hy] at hb
    injection ha with ha; injection hb with hb
    rw [← ha, ← hb]; exact hl
  · exact h.1 i a b hi e ha hb
theorem UpInv.step {l : List It} {j : Nat} {x y : It} (h : UpInv l j) (hj : 1 ≤ j) (hx : l[j]? = some x) (hy : l[(j - 1) / 2]? = some y) (hl : itLess x y = true) : UpInv (swapL l ((j - 1) / 2) j y x) ((j - 1) / 2) := by
  have hjl := (List.getElem?_eq_some_iff.1 hx).1
  have hpl := (List.getElem?_eq_some_iff.1 hy).1
  obtain ⟨p, hp⟩ : ∃ p, (j - 1) / 2 = p := ⟨_, rfl⟩
  have hpj : p < j := by omega
  rw [hp] at hy hpl ⊢
  have G := fun k => swapL_get (x := y) (y := x) hpl hjl k
  constructor
  · intro i a b hi hip ha hb
    rw [G] at ha hb
    rw [if_neg hip] at ha
    by_cases hij : i = j
    · rw [if_pos hij] at ha
      rw [if_neg (by omega), if_pos (by rw [hij]; exact hp)] at hb
      injection ha with ha; injection hb with hb
      rw [← ha, ← hb]; exact less_asymm hl
    · rw [if_neg hij] at ha
      by_cases h1 : (i - 1) / 2 = j
      · rw [if_pos h1] at hb
        injection hb with hb
        rw [← hb]
        exact h.2 i a y hi h1 hj ha (by rw [hp]; exact hy)
      · rw [if_neg h1] at hb
        by_cases h2 : (i - 1) / 2 = p
        · rw [if_pos h2] at hb
          injection hb with hb
          rw [← hb]
          exact nless_less (h.1 i a y hi hij ha (by rw [h2]; exact hy)) hl
        · rw [if_neg h2] at hb
          exact h.1 i a b hi hij ha hb
  · intro i a b hi hip hp1 ha hb
    rw [G] at ha hb
    rw [if_neg (by omega), if_neg (by omega)] at hb
    have hyb := h.1 p y b hp1 (by omega) hy hb
    by_cases hij : i = j
    · rw [if_pos hij] at ha
      injection ha with ha
      rw [← ha]; exact hyb
    · rw [if_neg hij, if_neg (by omega)] at ha
      exact nless_trans (h.1 i a y hi hij ha (by rw [hip]; exact hy)) hyb
theorem UpInv.push {l : List It} (h : HeapOK l) (x : It) : UpInv (l ++ [x]) l.length := by
  have hget : ∀ k a, k ≠ l.length → (l ++ [x])[k]? = some a → l[k]? = some a := fun k a hk ha => by
    have := (List.getElem?_eq_some_iff.1 ha).1
    rw [List.length_append, List.length_singleton] at this
    rwa [List.getElem?_append_left (by omega)] at ha
  constructor
  · intro i a b hi hne ha hb
    have h1 := hget i a hne ha
    have h2 := (List.getElem?_eq_some_iff.1 h1).1
    exact h i a b hi h1 (hget _ b (by omega) hb)
  · intro i a b hi he hj ha hb
    have := (List.getElem?_eq_some_iff.1 ha).1
    rw [List.length_append, List.length_singleton] at this
    omega
/-- The top is below none. -/
theorem HeapOK.top {l : List It} (h : HeapOK l) {x : It} (h0 : l[0]? = some x) : ∀ (i : Nat) y, l[i]? = some y → itLess y x = false := by
  intro i
  induction i using Nat.strongRecOn with
  | ind i ih =>
    intro y hy
    by_cases hi : i = 0
    · subst hi
      rw [h0] at hy; injection hy with hy
      rw [hy]; exact less_irrefl _
    · have hlt := (List.getElem?_eq_some_iff.1 hy).1
      have hp : l[(i - 1) / 2]? = some (l[(i - 1) / 2]'(by omega)) := List.getElem?_eq_getElem (by omega)
      exact nless_trans (h i y _ (by omega) hy hp) (ih _ (by omega) _ hp)
/-- Of the first n each is not below its parent. -/
def HeapTo (l : List It) (n : Nat) : Prop := ∀ (c : Nat) x y, 1 ≤ c → c < n → l[c]? = some x → l[(c - 1) / 2]? = some y → itLess x y = false
/-- While one goes down: it may lie wrong at i's children alone, and these aren't below i's parent. -/
def DownInv (l : List It) (n i : Nat) : Prop := (∀ (c : Nat) x y, 1 ≤ c → c < n → (c - 1) / 2 ≠ i → l[c]? = some x → l[(c - 1) / 2]? = some y → itLess x y = false) ∧
  ∀ (c : Nat) x y, 1 ≤ c → c < n → (c - 1) / 2 = i → 1 ≤ i → l[c]? = some x → l[(i - 1) / 2]? = some y → itLess x y = false
theorem HeapTo.take {l : List It} {n : Nat} (h : HeapTo l n) : HeapOK (l.take n) := fun c x y hc hx hy => by
  have h1 := (List.getElem?_eq_some_iff.1 hx).1
  rw [List.length_take] at h1
  rw [List.getElem?_take_of_lt (by omega)] at hx hy
  exact h c x y hc (by omega) hx hy
theorem DownInv.none {l : List It} {n i : Nat} (h : DownInv l n i) (hn : n ≤ 2 * i + 1) : HeapTo l n := fun c x y hc hcn hx hy => h.1 c x y hc hcn (by omega) hx hy
/-- j is i's least child. -/
def Least (l : List It) (n i j : Nat) : Prop := (j - 1) / 2 = i ∧ 1 ≤ j ∧ j < n ∧ ∀ (c : Nat) x y, 1 ≤ c → c < n → (c - 1) / 2 = i → l[c]? = some x → l[j]? = some y → itLess x y = false
theorem DownInv.stay {l : List It} {n i j : Nat} {x y : It} (h : DownInv l n i) (hL : Least l n i j) (hy : l[j]? = some y) (hx : l[i]? = some x) (hl : itLess y x = false) : HeapTo l n := fun c a b hc hcn ha hb => by
  by_cases e : (c - 1) / 2 = i
  · rw [e, hx] at hb
    injection hb with hb
    rw [← hb]
    exact nless_trans (hL.2.2.2 c a y hc hcn e ha hy) hl
  · exact h.1 c a b hc hcn e ha hb
theorem DownInv.step {l : List It} {n i j : Nat} {x y : It} (h : DownInv l n i) (hL : Least l n i j) (hx : l[i]? = some x) (hy : l[j]? = some y) (hl : itLess y x = true) : DownInv (swapL l i j x y) n j := by
  have hil := (List.getElem?_eq_some_iff.1 hx).1
  have hjl := (List.getElem?_eq_some_iff.1 hy).1
  obtain ⟨hp, hj1, hjn, hmin⟩ := hL
  have hij : i < j := by omega
  have G := fun k => swapL_get (x := x) (y := y) hil hjl k
  constructor
  · intro c a b hc hcn hcj ha hb
    rw [G] at ha hb
    rw [if_neg hcj] at hb
    by_cases e1 : c = j
    · rw [if_pos e1] at ha
      rw [if_pos (by rw [e1]; exact hp)] at hb
      injection ha with ha; injection hb with hb
      rw [← ha, ← hb]; exact less_asymm hl
    · rw [if_neg e1] at ha
      by_cases e2 : (c - 1) / 2 = i
      · rw [if_pos e2] at hb
        rw [if_neg (by omega)] at ha
        injection hb with hb
        rw [← hb]
        exact hmin c a y hc hcn e2 ha hy
      · rw [if_neg e2] at hb
        by_cases e3 : c = i
        · rw [if_pos e3] at ha
          injection ha with ha
          rw [← ha]
          exact h.2 j y b hj1 hjn hp (by omega) hy (by rw [← e3]; exact hb)
        · rw [if_neg e3] at ha
          exact h.1 c a b hc hcn e2 ha hb
  · intro c a b hc hcn hcj hj ha hb
    rw [G] at ha hb
    rw [if_neg (by omega), if_neg (by omega)] at ha
    rw [hp, if_neg (by omega), if_pos rfl] at hb
    injection hb with hb
    rw [← hb]
    exact h.1 c a y hc hcn (by omega) ha (by rw [hcj]; exact hy)
/-- The last one has been laid on top. -/
theorem DownInv.start {l : List It} (h : HeapOK l) {n : Nat} (hn : n + 1 = l.length) {x z : It} (hx : l[0]? = some x) (hz : l[n]? = some z) : DownInv (swapL l 0 n x z) n 0 := by
  have h0l := (List.getElem?_eq_some_iff.1 hx).1
  have hnl := (List.getElem?_eq_some_iff.1 hz).1
  have G := fun k => swapL_get (x := x) (y := z) h0l hnl k
  constructor
  · intro c a b hc hcn h1 ha hb
    rw [G] at ha hb
    rw [if_neg (by omega), if_neg (by omega)] at ha
    rw [if_neg (by omega), if_neg (by omega)] at hb
    exact h c a b hc ha hb
  · intro c a b hc hcn h1 h2
    omega
end Go.Proofs.YtihidnmpngeohaaGreat
namespace Go.Proofs.YtihidnmpngeohaaGreat

/-- A sample with its list and its place. -/
structure Tg where
  t : Int
  v : Int
  rank : Int
  idx : Nat
def tle (a b : Tg) : Bool := decide (a.t < b.t ∨ (a.t = b.t ∧ (a.rank < b.rank ∨ (a.rank = b.rank ∧ (a.idx < b.idx ∨ (a.idx = b.idx ∧ a.v ≤ b.v))))))
theorem tle_trans (a b c : Tg) (h : tle a b = true) (g : tle b c = true) : tle a c = true := by
  simp only [tle, decide_eq_true_eq] at *; omega
theorem tle_total (a b : Tg) : (tle a b || tle b a) = true := by
  simp only [tle, Bool.or_eq_true, decide_eq_true_eq]; omega
theorem tle_anti {a b : Tg} (h : tle a b = true) (g : tle b a = true) : a = b := by
  simp only [tle, decide_eq_true_eq] at *
  cases a; cases b
  simp only [Tg.mk.injEq] at *
  omega
def sortT (l : List Tg) : List Tg := l.mergeSort tle
theorem sortT_sorted (l : List Tg) : (sortT l).Pairwise (fun a b => tle a b = true) := List.pairwise_mergeSort tle_trans tle_total l
theorem sortT_perm (l : List Tg) : (sortT l).Perm l := List.mergeSort_perm l tle
theorem sorted_unique : ∀ {l m : List Tg}, l.Pairwise (fun a b => tle a b = true) → m.Pairwise (fun a b => tle a b = true) → l.Perm m → l = m := fun hl hm hp =>
  hp.eq_of_pairwise (fun _ _ _ _ h g => tle_anti h g) hl hm
theorem sortT_congr {l m : List Tg} (h : l.Perm m) : sortT l = sortT m := sorted_unique (sortT_sorted l) (sortT_sorted m) ((sortT_perm l).trans (h.trans (sortT_perm m).symm))
theorem sortT_cons {x : Tg} {l : List Tg} (h : ∀ y ∈ l, tle x y = true) : sortT (x :: l) = x :: sortT l :=
  sorted_unique (sortT_sorted _) (List.pairwise_cons.2 ⟨fun y hy => h y ((sortT_perm l).mem_iff.1 hy), sortT_sorted l⟩) ((sortT_perm _).trans ((sortT_perm l).symm.cons x))
/-- A list's samples from place i on. -/
def tagsFrom (rank : Int) : Nat → List (Int × Int) → List Tg
  | _, [] => []
  | i, x :: r => ⟨x.1, x.2, rank, i⟩ :: tagsFrom rank (i + 1) r
/-- One list in line: its first sample, its place, what comes behind. -/
structure Src where
  it : It
  i : Nat
  rest : List (Int × Int)
def Src.tg (s : Src) : Tg := ⟨s.it.t, s.it.v, s.it.rank, s.i⟩
def Src.flow (s : Src) : List Tg := s.tg :: tagsFrom s.it.rank (s.i + 1) s.rest
/-- A list rises. -/
def Rises (xs : List (Int × Int)) : Prop := xs.Pairwise (fun x y => x.1 ≤ y.1)
def Src.ok (s : Src) : Prop := Rises ((s.it.t, s.it.v) :: s.rest)
theorem tags_ge {rank : Int} {a : Tg} : ∀ {i : Nat} {xs : List (Int × Int)}, (∀ x ∈ xs, a.t ≤ x.1) → a.rank ≤ rank → (a.rank = rank → a.idx < i) → ∀ y ∈ tagsFrom rank i xs, tle a y = true
  | _, [], _, _, _, y, hy => by simp [tagsFrom] at hy
  | i, x :: r, h1, h2, h3, y, hy => by
    rcases List.mem_cons.1 hy with rfl | hy
    · have := h1 x List.mem_cons_self
      simp only [tle, decide_eq_true_eq]
      by_cases e : a.rank = rank
      · have := h3 e; omega
      · omega
    · exact tags_ge (i := i + 1) (xs := r) (fun z hz => h1 z (List.mem_cons_of_mem _ hz)) h2 (fun e => by have := h3 e; omega) y hy
theorem Src.least {s : Src} (h : s.ok) : ∀ y ∈ s.flow, tle s.tg y = true := by
  intro y hy
  rcases List.mem_cons.1 hy with rfl | hy
  · simp [tle]
  · exact tags_ge (fun x hx => (List.pairwise_cons.1 h).1 x hx) (Int.le_refl _) (fun _ => Nat.lt_succ_self _) y hy
/-- The item that is below none comes first of all that stands in line. -/
theorem least_of_all {s : Src} {ss : List Src} (hs : s.ok) (hss : ∀ u ∈ ss, u.ok) (hmin : ∀ u ∈ ss, itLess u.it s.it = false) (hne : ∀ u ∈ ss, u.it.rank ≠ s.it.rank) : ∀ y ∈ (tagsFrom s.it.rank (s.i + 1) s.rest) ++ ss.flatMap Src.flow, tle s.tg y = true := by
  intro y hy
  rcases List.mem_append.1 hy with hy | hy
  · exact Src.least hs y (List.mem_cons_of_mem _ hy)
  · obtain ⟨u, hu, hyu⟩ := List.mem_flatMap.1 hy
    refine tle_trans _ u.tg _ ?_ (Src.least (hss u hu) y hyu)
    have h1 := hmin u hu
    have h2 := hne u hu
    simp only [itLess, decide_eq_false_iff_not] at h1
    unfold tle Src.tg
    rw [decide_eq_true_eq]
    simp only []
    omega
/-- One sample is put behind the rising ones. -/
def outStep (o : List (Int × Int)) (x : Int × Int) : List (Int × Int) :=
  match o.getLast? with
  | some y => if y.1 = x.1 then o.dropLast ++ [x] else o ++ [x]
  | none => [x]
def collapse (p : List Tg) : List (Int × Int) := (p.map fun a => (a.t, a.v)).foldl outStep []
theorem collapse_snoc (p : List Tg) (a : Tg) : collapse (p ++ [a]) = outStep (collapse p) (a.t, a.v) := by simp [collapse, List.map_append, List.foldl_append]
theorem outStep_nil (x : Int × Int) : outStep [] x = [x] := rfl
theorem outStep_same (o : List (Int × Int)) (y x : Int × Int) (h : y.1 = x.1) : outStep (o ++ [y]) x = o ++ [x] := by
  unfold outStep
  rw [List.getLast?_concat]
  simp only []
  rw [if_pos h, List.dropLast_concat]
theorem outStep_new (o : List (Int × Int)) (y x : Int × Int) (h : ¬ y.1 = x.1) : outStep (o ++ [y]) x = o ++ [y] ++ [x] := by
  unfold outStep
  rw [List.getLast?_concat]
  simp only []
  rw [if_neg h]
theorem outStep_len (o : List (Int × Int)) (x : Int × Int) : (outStep o x).length ≤ o.length + 1 := by
  unfold outStep
  split
  · rename_i y hy
    have : o ≠ [] := by rintro rfl; simp at hy
    have := List.length_pos_iff.2 this
    split
    · simp; try omega
    · simp
  · simp
theorem collapse_len (p : List Tg) : (collapse p).length ≤ p.length := by
  suffices ∀ (l : List (Int × Int)) (o : List (Int × Int)), (l.foldl outStep o).length ≤ o.length + l.length by
    have := this (p.map fun a => (a.t, a.v)) []
    simpa [collapse] using this
  intro l
  induction l with
  | nil => intro o; simp
  | cons x l ih =>
    intro o
    have h1 := ih (outStep o x)
    have h2 := outStep_len o x
    simp only [List.foldl_cons, List.length_cons]
    omega
theorem tags_length (rank : Int) : ∀ (i : Nat) (xs : List (Int × Int)), (tagsFrom rank i xs).length = xs.length
  | _, [] => rfl
  | i, _ :: r => by simp [tagsFrom, tags_length rank (i + 1) r]
theorem flow_length {ss ss' : List Src} {s : Src} (h : ss.Perm (s :: ss')) : (ss.flatMap Src.flow).length = s.rest.length + 1 + (ss'.flatMap Src.flow).length := by
  rw [(List.Perm.flatMap_right Src.flow h).length_eq, List.flatMap_cons, List.length_append]
  simp only [Src.flow, List.length_cons, tags_length]
/-- A list's samples by their times, those of one time in their order. -/
def sortS (xs : List (Int × Int)) : List (Int × Int) := xs.mergeSort fun a b => decide (a.1 ≤ b.1)
theorem sortS_rises (xs : List (Int × Int)) : Rises (sortS xs) := by
  have h := List.pairwise_mergeSort (le := fun a b : Int × Int => decide (a.1 ≤ b.1)) (fun a b c h g => by simp only [decide_eq_true_eq] at *; omega) (fun a b => by simp only [Bool.or_eq_true, decide_eq_true_eq]; omega) xs
  exact h.imp fun h => by simpa using h
theorem sortS_length (xs : List (Int × Int)) : (sortS xs).length = xs.length := List.length_mergeSort xs
/-- All lists' samples, with their lists and places. -/
def tagAll : Nat → List (List (Int × Int)) → List Tg
  | _, [] => []
  | i, xs :: r => tagsFrom (i : Int) 0 (sortS xs) ++ tagAll (i + 1) r
theorem tagAll_snoc (xs : List (Int × Int)) : ∀ (i : Nat) (ls : List (List (Int × Int))), tagAll i (ls ++ [xs]) = tagAll i ls ++ tagsFrom ((i + ls.length : Nat) : Int) 0 (sortS xs)
  | i, [] => by simp [tagAll]
  | i, y :: ls => by
    rw [List.cons_append, tagAll, tagAll, tagAll_snoc xs (i + 1) ls, List.append_assoc, List.length_cons]
    congr 4
    omega
theorem tagAll_take {ls : List (List (Int × Int))} {k : Nat} {xs : List (Int × Int)} (h : ls[k]? = some xs) : tagAll 0 (ls.take (k + 1)) = tagAll 0 (ls.take k) ++ tagsFrom (k : Int) 0 (sortS xs) := by
  obtain ⟨hk, e⟩ := List.getElem?_eq_some_iff.1 h
  rw [List.take_succ_eq_append_getElem hk, e, tagAll_snoc, List.length_take, Nat.zero_add, Nat.min_eq_left (by omega)]
end Go.Proofs.YtihidnmpngeohaaGreat
