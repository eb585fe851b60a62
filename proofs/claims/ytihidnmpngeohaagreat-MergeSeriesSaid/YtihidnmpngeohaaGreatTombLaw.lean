/- Plain law of merge.Tombs: of each set of labels the intervals that its tombs have, put together. No program. -/
import Derived.Test.YtihidnmpngeohaaGreatG00
import Derived.Test.YtihidnmpngeohaaGreatG06
namespace Go.Proofs.YtihidnmpngeohaaGreat

/-- Intervals put together: the one list that lies apart and covers the same. -/
def ivU (l : List (Int × Int)) : List (Int × Int) := l.foldl refIv []
theorem ivU_eq {l m : List (Int × Int)} (ha : Apart m) (hc : ∀ t, Cov m t ↔ Cov l t) : m = ivU l :=
  apart_unique ha (refIvs_law l).1 fun t => (hc t).trans ((refIvs_law l).2 t).symm
theorem ivU_congr {l m : List (Int × Int)} (h : ∀ t, Cov l t ↔ Cov m t) : ivU l = ivU m :=
  ivU_eq (refIvs_law l).1 fun t => ((refIvs_law l).2 t).trans (h t)
theorem ivU_idem (l : List (Int × Int)) : ivU (ivU l) = ivU l := ivU_congr (refIvs_law l).2
theorem ivU_perm {l m : List (Int × Int)} (h : l.Perm m) : ivU l = ivU m := ivU_congr (cov_perm h)

theorem flatMap_same {α β : Type} {f g : α → List β} : ∀ {l : List α}, (∀ x ∈ l, f x = g x) → l.flatMap f = l.flatMap g
  | [], _ => rfl
  | x :: l, h => by rw [List.flatMap_cons, List.flatMap_cons, h x (by simp), flatMap_same fun y hy => h y (List.mem_cons_of_mem _ hy)]
section
variable {K : Type} {c : K → K → Int}
/-- The intervals that tombs have for some labels. -/
def goneK (c : K → K → Int) (l : List (K × (Int × Int))) (s : K) : List (Int × Int) := (l.filter fun x => decide (c x.1 s = 0)).map (·.2)
def tombsOf (c : K → K → Int) (ss : List K) (l : List (K × (Int × Int))) : List (K × (Int × Int)) := ss.flatMap fun s => (ivU (goneK c l s)).map fun g => (s, g)
/-- The rising keys of some tombs. -/
structure IsKeys (c : K → K → Int) (ss : List K) (l : List (K × (Int × Int))) : Prop where
  up : ss.Pairwise fun x y => c x y < 0
  mem : ∀ s, s ∈ ss ↔ ∃ x ∈ l, x.1 = s
theorem up_unique (h : Cmp3 c) {a b : List K} (ha : a.Pairwise fun x y => c x y < 0) (hb : b.Pairwise fun x y => c x y < 0) (hm : ∀ s, s ∈ a ↔ s ∈ b) : a = b := by
  have na : a.Nodup := ha.imp fun {x y} hxy e => by rw [e, h.self] at hxy; omega
  have nb : b.Nodup := hb.imp fun {x y} hxy e => by rw [e, h.self] at hxy; omega
  have hp : a.Perm b := (List.perm_ext_iff_of_nodup na nb).2 hm
  exact hp.eq_of_pairwise (fun x y _ _ h1 h2 => by rw [h.swap] at h2; omega) ha hb
theorem IsKeys.unique (h : Cmp3 c) {a b : List K} {l : List (K × (Int × Int))} (ha : IsKeys c a l) (hb : IsKeys c b l) : a = b := up_unique h ha.up hb.up fun s => (ha.mem s).trans (hb.mem s).symm
theorem IsKeys.perm {a : List K} {l m : List (K × (Int × Int))} (ha : IsKeys c a l) (hp : l.Perm m) : IsKeys c a m := ⟨ha.up, fun s => (ha.mem s).trans ⟨fun ⟨x, hx, e⟩ => ⟨x, hp.mem_iff.1 hx, e⟩, fun ⟨x, hx, e⟩ => ⟨x, hp.mem_iff.2 hx, e⟩⟩⟩
theorem tombsOf_perm {ss : List K} {l m : List (K × (Int × Int))} (hp : l.Perm m) : tombsOf c ss l = tombsOf c ss m := by
  unfold tombsOf goneK
  congr 1
  funext s
  rw [ivU_perm ((hp.filter _).map _)]
/-- As Go's text goes on: a run of tombs with the same labels, one behind the other. -/
def runLen (c : K → K → Int) (x : K × (Int × Int)) (d : List (K × (Int × Int))) : Nat := d.findIdx fun y => !decide (c y.1 x.1 = 0)
def runsT (c : K → K → Int) : Nat → List (K × (Int × Int)) → List (K × (Int × Int))
  | 0, _ => []
  | _ + 1, [] => []
  | f + 1, x :: t => ((ivU (((x :: t).take (runLen c x (x :: t))).map (·.2))).map fun g => (x.1, g)) ++ runsT c f ((x :: t).drop (runLen c x (x :: t)))
theorem runLen_pos (h : Cmp3 c) (x : K × (Int × Int)) (t : List (K × (Int × Int))) : 1 ≤ runLen c x (x :: t) := by
  unfold runLen
  rw [List.findIdx_cons]
  simp [h.self]
theorem runLen_le (x : K × (Int × Int)) (d : List (K × (Int × Int))) : runLen c x d ≤ d.length := List.findIdx_le_length
theorem run_take (h : Cmp3 c) (x : K × (Int × Int)) (d : List (K × (Int × Int))) : ∀ y ∈ d.take (runLen c x d), y.1 = x.1 := by
  intro y hy
  obtain ⟨i, hi, e⟩ := List.getElem_of_mem hy
  rw [List.length_take] at hi
  have h1 := List.not_of_lt_findIdx (p := fun y : K × (Int × Int) => !decide (c y.1 x.1 = 0)) (xs := d) (i := i) (by unfold runLen at hi; omega)
  rw [List.getElem_take] at e
  rw [e] at h1
  exact (h.zero _ _).1 (by simpa using h1)
theorem run_drop (h : Cmp3 c) {x : K × (Int × Int)} {t : List (K × (Int × Int))} (hs : (x :: t).Pairwise fun a b => c a.1 b.1 ≤ 0) : ∀ z ∈ (x :: t).drop (runLen c x (x :: t)), c x.1 z.1 < 0 := by
  obtain ⟨n, hn⟩ : ∃ n, runLen c x (x :: t) = n := ⟨_, rfl⟩
  have hp := runLen_pos h x t
  rw [hn] at hp ⊢
  obtain ⟨d, hd⟩ : ∃ d, x :: t = d := ⟨_, rfl⟩
  intro z hz
  obtain ⟨i, hi, e⟩ := List.getElem_of_mem hz
  rw [List.length_drop, hd] at hi
  rw [List.getElem_drop] at e
  have hnl : n < d.length := by omega
  have hfirst : ¬ c (d[n]).1 x.1 = 0 := by
    have h1 := List.findIdx_getElem (p := fun y : K × (Int × Int) => !decide (c y.1 x.1 = 0)) (xs := d) (w := by unfold runLen at hn; rw [hd] at hn; rw [hn]; exact hnl)
    have h2 : d.findIdx (fun y : K × (Int × Int) => !decide (c y.1 x.1 = 0)) = n := by unfold runLen at hn; rw [hd] at hn; exact hn
    simp only [h2] at h1
    simpa using h1
  rw [List.pairwise_iff_getElem] at hs
  have hx0 : (x :: t)[0]'(by simp) = x := rfl
  have h0n : c x.1 (d[n]).1 ≤ 0 := by
    have := hs 0 n (by simp) (by rw [hd]; exact hnl) (by omega)
    simp only [hd] at this
    rw [show d[0]'(by omega) = x by simp only [← hd]; rfl] at this
    exact this
  have h0n' : c x.1 (d[n]).1 < 0 := by
    have h1 := h.swap x.1 (d[n]).1
    omega
  have hzn : c (d[n]).1 z.1 ≤ 0 := by
    by_cases hi0 : i = 0
    · subst hi0
      have : z = d[n] := by rw [← e]; simp only [hd, Nat.add_zero]
      rw [this, h.self]
      omega
    · have h2 := hs n (n + i) (by rw [hd]; exact hnl) (by rw [hd]; omega) (by omega)
      rw [e] at h2
      simp only [hd] at h2
      exact h2
  by_cases h3 : c (d[n]).1 z.1 = 0
  · rw [← (h.zero _ _).1 h3]; exact h0n'
  · exact h.trans _ _ _ h0n' (by omega)
theorem runsT_fuel (h : Cmp3 c) : ∀ (f f' : Nat) (d : List (K × (Int × Int))), d.length ≤ f → d.length ≤ f' → runsT c f d = runsT c f' d
  | 0, f', d, hf, _ => by
    obtain rfl := List.length_eq_zero_iff.1 (Nat.le_zero.1 hf)
    cases f' <;> rfl
  | f + 1, 0, d, _, hf => by
    obtain rfl := List.length_eq_zero_iff.1 (Nat.le_zero.1 hf)
    rfl
  | f + 1, f' + 1, [], _, _ => rfl
  | f + 1, f' + 1, x :: t, hf, hf' => by
    have hp := runLen_pos h x t
    rw [runsT, runsT, runsT_fuel h f f' _ (by rw [List.length_drop]; simp only [List.length_cons] at hf ⊢; omega) (by rw [List.length_drop]; simp only [List.length_cons] at hf' ⊢; omega)]
theorem runsT_cons (h : Cmp3 c) {f : Nat} {x : K × (Int × Int)} {t : List (K × (Int × Int))} (hf : (x :: t).length ≤ f) :
    runsT c f (x :: t) = ((ivU (((x :: t).take (runLen c x (x :: t))).map (·.2))).map fun g => (x.1, g)) ++ runsT c f ((x :: t).drop (runLen c x (x :: t))) := by
  have hp := runLen_pos h x t
  obtain ⟨f', rfl⟩ : ∃ f', f = f' + 1 := ⟨f - 1, by simp only [List.length_cons] at hf; omega⟩
  rw [runsT, runsT_fuel h f' (f' + 1) _ (by rw [List.length_drop]; simp only [List.length_cons] at hf ⊢; omega) (by rw [List.length_drop]; simp only [List.length_cons] at hf ⊢; omega)]
theorem goneK_append (a b : List (K × (Int × Int))) (s : K) : goneK c (a ++ b) s = goneK c a s ++ goneK c b s := by unfold goneK; rw [List.filter_append, List.map_append]
theorem goneK_all {a : List (K × (Int × Int))} {s : K} (h : ∀ y ∈ a, c y.1 s = 0) : goneK c a s = a.map (·.2) := by
  unfold goneK
  rw [List.filter_eq_self.2 fun y hy => decide_eq_true (h y hy)]
theorem goneK_none {a : List (K × (Int × Int))} {s : K} (h : ∀ y ∈ a, ¬ c y.1 s = 0) : goneK c a s = [] := by
  unfold goneK
  rw [List.filter_eq_nil_iff.2 fun y hy => by simpa using h y hy]
  rfl
theorem runsT_law (h : Cmp3 c) : ∀ (f : Nat) (d : List (K × (Int × Int))), d.length ≤ f → (d.Pairwise fun a b => c a.1 b.1 ≤ 0) → ∃ ss, IsKeys c ss d ∧ runsT c f d = tombsOf c ss d
  | 0, d, hf, _ => by
    obtain rfl := List.length_eq_zero_iff.1 (Nat.le_zero.1 hf)
    exact ⟨[], ⟨List.Pairwise.nil, by simp⟩, rfl⟩
  | f + 1, [], _, _ => ⟨[], ⟨List.Pairwise.nil, by simp⟩, rfl⟩
  | f + 1, x :: t, hf, hs => by
    have hp := runLen_pos h x t
    have hle := runLen_le (c := c) x (x :: t)
    have ht := run_take h x (x :: t)
    have hd := run_drop h hs
    rw [runsT]
    obtain ⟨n, hn⟩ : ∃ n, runLen c x (x :: t) = n := ⟨_, rfl⟩
    rw [hn] at hp hle ht hd ⊢
    obtain ⟨ss, hk, he⟩ := runsT_law h f ((x :: t).drop n) (by rw [List.length_drop]; simp only [List.length_cons] at hf ⊢; omega) (hs.sublist (List.drop_sublist _ _))
    have hsplit : (x :: t) = (x :: t).take n ++ (x :: t).drop n := (List.take_append_drop _ _).symm
    have hss : ∀ s ∈ ss, c x.1 s < 0 := fun s hm => by
      obtain ⟨z, hz, e⟩ := (hk.mem s).1 hm
      rw [← e]; exact hd z hz
    refine ⟨x.1 :: ss, ⟨List.pairwise_cons.2 ⟨hss, hk.up⟩, fun s => ?_⟩, ?_⟩
    · rw [List.mem_cons, hk.mem]
      constructor
      · rintro (rfl | ⟨z, hz, e⟩)
        · exact ⟨x, by simp, rfl⟩
        · exact ⟨z, List.mem_of_mem_drop hz, e⟩
      · rintro ⟨z, hz, e⟩
        rw [hsplit] at hz
        rcases List.mem_append.1 hz with hz | hz
        · exact .inl (by rw [← e]; exact ht z hz)
        · exact .inr ⟨z, hz, e⟩
    · have g1 : goneK c (x :: t) x.1 = ((x :: t).take n).map (·.2) := by
        conv => lhs; rw [hsplit]
        rw [goneK_append, goneK_all (fun y hy => by rw [ht y hy, h.self]), goneK_none (fun y hy e => by have := hd y hy; rw [(h.zero _ _).1 e, h.self] at this; omega), List.append_nil]
      have g2 : ∀ s ∈ ss, goneK c (x :: t) s = goneK c ((x :: t).drop n) s := fun s hm => by
        conv => lhs; rw [hsplit]
        rw [goneK_append, goneK_none (a := (x :: t).take n) (fun y hy e => by have := hss s hm; rw [← ht y hy, e] at this; omega), List.nil_append]
      rw [he]
      unfold tombsOf
      rw [List.flatMap_cons, g1]
      congr 1
      exact flatMap_same fun s hm => by rw [g2 s hm]
/-- A key at its place among rising ones. -/
def insK (c : K → K → Int) : List K → K → List K
  | [], s => [s]
  | y :: t, s => if c y s < 0 then y :: insK c t s else if c y s = 0 then y :: t else s :: y :: t
theorem insK_mem (h : Cmp3 c) : ∀ (ss : List K) (s z : K), z ∈ insK c ss s ↔ z ∈ ss ∨ z = s
  | [], s, z => by simp [insK]
  | y :: t, s, z => by
    rw [insK]
    split
    · rw [List.mem_cons, insK_mem h t s z, List.mem_cons]
      exact or_assoc.symm
    · split
      · rename_i e
        have := (h.zero _ _).1 e
        subst this
        constructor
        · exact .inl
        · rintro (h | rfl)
          · exact h
          · simp
      · rw [List.mem_cons]
        exact or_comm
theorem insK_up (h : Cmp3 c) : ∀ (ss : List K) (s : K), (ss.Pairwise fun x y => c x y < 0) → (insK c ss s).Pairwise fun x y => c x y < 0
  | [], s, _ => by rw [insK]; exact List.pairwise_singleton _ _
  | y :: t, s, hp => by
    obtain ⟨h1, h2⟩ := List.pairwise_cons.1 hp
    rw [insK]
    split
    · rename_i hlt
      refine List.pairwise_cons.2 ⟨fun z hz => ?_, insK_up h t s h2⟩
      rcases (insK_mem h t s z).1 hz with hz | rfl
      · exact h1 z hz
      · exact hlt
    · split
      · exact hp
      · rename_i h3 h4
        have hsy : c s y < 0 := by have := h.swap s y; omega
        refine List.pairwise_cons.2 ⟨fun z hz => ?_, hp⟩
        rcases List.mem_cons.1 hz with rfl | hz
        · exact hsy
        · exact h.trans _ _ _ hsy (h1 z hz)
theorem insK_at {ss : List K} {s : K} : ∀ (k : Nat), k ≤ ss.length → (∀ j y, j < k → ss[j]? = some y → c y s < 0) → (∀ y, ss[k]? = some y → ¬ c y s < 0) → insK c ss s = if (∃ y, ss[k]? = some y ∧ c y s = 0) then ss else ss.take k ++ s :: ss.drop k := by
  induction ss with
  | nil => intro k hk _ _; rw [insK]; simp
  | cons y t ih =>
    intro k hk h1 h2
    rw [insK]
    cases k with
    | zero =>
      have := h2 y rfl
      rw [if_neg this]
      by_cases e : c y s = 0
      · rw [if_pos e, if_pos ⟨y, rfl, e⟩]
      · rw [if_neg e, if_neg (by rintro ⟨z, hz, e'⟩; obtain rfl : y = z := (by simpa using hz); exact e e')]
        rfl
    | succ k =>
      rw [if_pos (h1 0 y (by omega) rfl), ih k (by simpa using hk) (fun j z hj hz => h1 (j + 1) z (by omega) (by simpa using hz)) (fun z hz => h2 z (by simpa using hz))]
      simp only [List.getElem?_cons_succ, List.take_succ_cons, List.drop_succ_cons]
      split <;> rfl
def keysOf (c : K → K → Int) (l : List (K × (Int × Int))) : List K := l.foldl (fun ss x => insK c ss x.1) []
theorem keysOf_keys (h : Cmp3 c) (l : List (K × (Int × Int))) : IsKeys c (keysOf c l) l := by
  suffices H : ∀ (l : List (K × (Int × Int))) (ss : List K), (ss.Pairwise fun x y => c x y < 0) → ((l.foldl (fun ss x => insK c ss x.1) ss).Pairwise fun x y => c x y < 0) ∧ ∀ s, s ∈ l.foldl (fun ss x => insK c ss x.1) ss ↔ s ∈ ss ∨ ∃ x ∈ l, x.1 = s by
    obtain ⟨h1, h2⟩ := H l [] List.Pairwise.nil
    exact ⟨h1, fun s => (h2 s).trans (by simp)⟩
  intro l
  induction l with
  | nil => intro ss hp; exact ⟨hp, by simp⟩
  | cons x l ih =>
    intro ss hp
    obtain ⟨h1, h2⟩ := ih (insK c ss x.1) (insK_up h ss x.1 hp)
    refine ⟨h1, fun s => (h2 s).trans ?_⟩
    rw [insK_mem h]
    constructor
    · rintro ((hs | rfl) | ⟨z, hz, e⟩)
      · exact .inl hs
      · exact .inr ⟨x, by simp, rfl⟩
      · exact .inr ⟨z, by simp [hz], e⟩
    · rintro (hs | ⟨z, hz, e⟩)
      · exact .inl (.inl hs)
      · rcases List.mem_cons.1 hz with rfl | hz
        · exact .inl (.inr e.symm)
        · exact .inr ⟨z, hz, e⟩
/-- Tombs put together. -/
def tombsU (c : K → K → Int) (l : List (K × (Int × Int))) : List (K × (Int × Int)) := tombsOf c (keysOf c l) l
theorem runsT_is (h : Cmp3 c) {f : Nat} {d l : List (K × (Int × Int))} (hf : d.length ≤ f) (hs : d.Pairwise fun a b => c a.1 b.1 ≤ 0) (hp : d.Perm l) : runsT c f d = tombsU c l := by
  obtain ⟨ss, hk, he⟩ := runsT_law h f d hf hs
  rw [he, tombsOf_perm hp, (hk.perm hp).unique h (keysOf_keys h l)]
  rfl
theorem gone_tombs (h : Cmp3 c) : ∀ (ss : List K) (l : List (K × (Int × Int))), (ss.Pairwise fun x y => c x y < 0) → ∀ s ∈ ss, goneK c (tombsOf c ss l) s = ivU (goneK c l s)
  | [], _, _, s, hs => by cases hs
  | y :: t, l, hp, s, hs => by
    obtain ⟨h1, h2⟩ := List.pairwise_cons.1 hp
    have e : tombsOf c (y :: t) l = ((ivU (goneK c l y)).map fun g => (y, g)) ++ tombsOf c t l := by unfold tombsOf; rw [List.flatMap_cons]
    have hin : ∀ z ∈ tombsOf c t l, z.1 ∈ t := fun z hz => by
      unfold tombsOf at hz
      obtain ⟨q, hq, hz⟩ := List.mem_flatMap.1 hz
      obtain ⟨g, _, rfl⟩ := List.mem_map.1 hz
      exact hq
    rw [e, goneK_append]
    rcases List.mem_cons.1 hs with rfl | hs
    · rw [goneK_all (fun z hz => by obtain ⟨g, _, rfl⟩ := List.mem_map.1 hz; exact h.self _), goneK_none (a := tombsOf c t l) (fun z hz e => by have := h1 _ (hin z hz); rw [(h.zero _ _).1 e, h.self] at this; omega), List.append_nil, List.map_map]
      exact List.map_id _
    · rw [goneK_none (a := (ivU (goneK c l y)).map fun g => (y, g)) (fun z hz e => by obtain ⟨g, _, rfl⟩ := List.mem_map.1 hz; have := h1 s hs; have e' : c y s = 0 := e; omega), List.nil_append]
      exact gone_tombs h t l h2 s hs
/-- Tombs that were put together stay as they are. -/
theorem tombsU_idem (h : Cmp3 c) (l : List (K × (Int × Int))) : tombsU c (tombsU c l) = tombsU c l := by
  obtain ⟨ss, hss⟩ : ∃ ss, keysOf c l = ss := ⟨_, rfl⟩
  have hk := keysOf_keys h l
  unfold tombsU
  rw [hss] at hk ⊢
  have hk2 := keysOf_keys h (tombsOf c ss l)
  obtain ⟨s2, hs2⟩ : ∃ s2, keysOf c (tombsOf c ss l) = s2 := ⟨_, rfl⟩
  rw [hs2] at hk2 ⊢
  have hsub : s2 = ss.filter fun s => !(ivU (goneK c l s)).isEmpty := by
    refine up_unique h hk2.up (hk.up.filter _) fun s => ?_
    rw [hk2.mem, List.mem_filter]
    constructor
    · rintro ⟨x, hx, rfl⟩
      unfold tombsOf at hx
      obtain ⟨q, hq, hx⟩ := List.mem_flatMap.1 hx
      obtain ⟨g, hg, rfl⟩ := List.mem_map.1 hx
      refine ⟨hq, ?_⟩
      cases e : ivU (goneK c l q) with
      | nil => rw [e] at hg; cases hg
      | cons a b => rfl
    · rintro ⟨hs, hne⟩
      cases e : ivU (goneK c l s) with
      | nil => rw [e] at hne; cases hne
      | cons a b => exact ⟨(s, a), by unfold tombsOf; exact List.mem_flatMap.2 ⟨s, hs, List.mem_map.2 ⟨a, by rw [e]; simp, rfl⟩⟩, rfl⟩
  have hg : ∀ s ∈ ss, goneK c (tombsOf c ss l) s = ivU (goneK c l s) := gone_tombs h ss l hk.up
  have : ∀ q : List K, (∀ s ∈ q, s ∈ ss) → (q.filter fun s => !(ivU (goneK c l s)).isEmpty).flatMap (fun s => (ivU (goneK c (tombsOf c ss l) s)).map fun g => (s, g)) = q.flatMap fun s => (ivU (goneK c l s)).map fun g => (s, g) := by
    intro q
    induction q with
    | nil => intro _; rfl
    | cons y t ih =>
      intro hq
      have ih := ih fun s hs => hq s (List.mem_cons_of_mem _ hs)
      rw [List.filter_cons]
      cases e : ivU (goneK c l y) with
      | nil =>
        rw [if_neg (by simp), ih, List.flatMap_cons, e]
        rfl
      | cons a b =>
        rw [if_pos (by simp), List.flatMap_cons, List.flatMap_cons, ih, hg y (hq y (by simp)), ivU_idem, e]
  rw [hsub]
  exact this ss fun _ h => h
end
end Go.Proofs.YtihidnmpngeohaaGreat
