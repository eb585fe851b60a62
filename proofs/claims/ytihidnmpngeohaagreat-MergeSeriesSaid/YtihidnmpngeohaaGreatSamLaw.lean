/- Plain law of merge.Samples: what is put together is, of each time, the last sample. No program. -/
import Derived.Test.YtihidnmpngeohaaGreatG09
namespace Go.Proofs.YtihidnmpngeohaaGreat

/-- The value of the last sample of a time. -/
def lastV (l : List (Int × Int)) (t : Int) : Option Int := ((l.filter fun x => x.1 == t).getLast?).map (·.2)
theorem lastV_nil (t : Int) : lastV [] t = none := rfl
theorem lastV_snoc (l : List (Int × Int)) (x : Int × Int) (t : Int) : lastV (l ++ [x]) t = if x.1 = t then some x.2 else lastV l t := by
  unfold lastV
  by_cases h : x.1 = t
  · rw [if_pos h, List.filter_append]; simp [h]
  · rw [if_neg h, List.filter_append]; simp [h]
def Strict (l : List (Int × Int)) : Prop := l.Pairwise (fun x y => x.1 < y.1)
/-- The rising samples that lists make together: of each time the last one. -/
def Of (r all : List (Int × Int)) : Prop := Strict r ∧ ∀ x, x ∈ r ↔ lastV all x.1 = some x.2
theorem Of.nil : Of [] [] := ⟨List.Pairwise.nil, fun x => by simp [lastV_nil]⟩
theorem strict_unique {l m : List (Int × Int)} (hl : Strict l) (hm : Strict m) (h : ∀ x, x ∈ l ↔ x ∈ m) : l = m := by
  have nl : l.Nodup := hl.imp fun h e => by rw [e] at h; omega
  have nm : m.Nodup := hm.imp fun h e => by rw [e] at h; omega
  have hp : l.Perm m := (List.perm_ext_iff_of_nodup nl nm).2 h
  exact hp.eq_of_pairwise (fun _ _ _ _ h g => by omega) hl hm
theorem Of.unique {r r' all : List (Int × Int)} (h : Of r all) (h' : Of r' all) : r = r' := strict_unique h.1 h'.1 fun x => (h.2 x).trans (h'.2 x).symm
theorem Of.congr {r all all' : List (Int × Int)} (h : Of r all) (he : ∀ t, lastV all t = lastV all' t) : Of r all' := ⟨h.1, fun x => by rw [h.2 x, he]⟩
theorem Of.out {o all : List (Int × Int)} {x : Int × Int} (h : Of o all) (hle : ∀ y ∈ o, y.1 ≤ x.1) : Of (outStep o x) (all ++ [x]) ∧ ∀ y ∈ outStep o x, y.1 ≤ x.1 := by
  rcases (show o = [] ∨ ∃ o' y, o = o' ++ [y] by
    rcases List.eq_nil_or_concat o with h | ⟨o', y, h⟩
    · exact .inl h
    · exact .inr ⟨o', y, by rw [h, List.concat_eq_append]⟩) with rfl | ⟨o', y, rfl⟩
  · rw [outStep_nil]
    refine ⟨⟨List.pairwise_singleton _ _, fun z => ?_⟩, fun z hz => by rw [List.mem_singleton.1 hz]; exact Int.le_refl _⟩
    have := h.2 z
    rw [lastV_snoc, List.mem_singleton]
    by_cases e : x.1 = z.1
    · rw [if_pos e]
      exact ⟨fun q => by rw [q], fun q => Prod.ext e.symm (Option.some.inj q).symm⟩
    · rw [if_neg e, ← this]
      exact ⟨fun q => absurd (by rw [q]) e, fun q => by cases q⟩
  · have hpw := List.pairwise_append.1 h.1
    have hy := hle y (by simp)
    have hlt : ∀ z ∈ o', z.1 < x.1 := fun z hz => by have := hpw.2.2 z hz y (List.mem_singleton.2 rfl); omega
    by_cases e : y.1 = x.1
    · rw [outStep_same o' y x e]
      refine ⟨⟨List.pairwise_append.2 ⟨hpw.1, List.pairwise_singleton _ _, fun a ha b hb => by rw [List.mem_singleton.1 hb]; exact hlt a ha⟩, fun z => ?_⟩, fun z hz => ?_⟩
      · have := h.2 z
        rw [lastV_snoc, List.mem_append, List.mem_singleton]
        rw [List.mem_append, List.mem_singleton] at this
        by_cases q : x.1 = z.1
        · rw [if_pos q]
          exact ⟨fun c => by rcases c with c | c
                             · have := hlt z c; omega
                             · rw [c], fun c => .inr (Prod.ext q.symm (Option.some.inj c).symm)⟩
        · rw [if_neg q, ← this]
          exact ⟨fun c => by rcases c with c | c
                             · exact .inl c
                             · exact absurd (by rw [c]) q, fun c => by rcases c with c | c
                                                                       · exact .inl c
                                                                       · exact absurd (by rw [c]; exact e.symm) q⟩
      · rcases List.mem_append.1 hz with hz | hz
        · exact Int.le_of_lt (hlt z hz)
        · rw [List.mem_singleton.1 hz]; exact Int.le_refl _
    · rw [outStep_new o' y x e]
      have hall : ∀ z ∈ o' ++ [y], z.1 < x.1 := fun z hz => by
        rcases List.mem_append.1 hz with hz | hz
        · exact hlt z hz
        · rw [List.mem_singleton.1 hz]; omega
      refine ⟨⟨List.pairwise_append.2 ⟨h.1, List.pairwise_singleton _ _, fun a ha b hb => by rw [List.mem_singleton.1 hb]; exact hall a ha⟩, fun z => ?_⟩, fun z hz => ?_⟩
      · have := h.2 z
        rw [lastV_snoc, List.mem_append (s := o' ++ [y]), List.mem_singleton]
        by_cases q : x.1 = z.1
        · rw [if_pos q]
          exact ⟨fun c => by rcases c with c | c
                             · have := hall z c; omega
                             · rw [c], fun c => .inr (Prod.ext q.symm (Option.some.inj c).symm)⟩
        · rw [if_neg q, ← this]
          exact ⟨fun c => by rcases c with c | c
                             · exact c
                             · exact absurd (by rw [c]) q, .inl⟩
      · rcases List.mem_append.1 hz with hz | hz
        · exact Int.le_of_lt (hall z hz)
        · rw [List.mem_singleton.1 hz]; exact Int.le_refl _
/-- Rising samples, put out one by one. -/
theorem collapse_of {p : List (Int × Int)} (hp : p.Pairwise (fun x y => x.1 ≤ y.1)) : Of (p.foldl outStep []) p := by
  suffices H : ∀ (q : List (Int × Int)) (o all : List (Int × Int)), q.Pairwise (fun x y => x.1 ≤ y.1) → Of o all → (∀ y ∈ o, ∀ x ∈ q, y.1 ≤ x.1) → Of (q.foldl outStep o) (all ++ q) by
    exact H p [] [] hp Of.nil (fun y hy => by cases hy)
  intro q
  induction q with
  | nil => intro o all _ h _; rw [List.append_nil]; exact h
  | cons x q ih =>
    intro o all hq h hb
    have hq' := List.pairwise_cons.1 hq
    obtain ⟨h1, h2⟩ := h.out (x := x) (fun y hy => hb y hy x List.mem_cons_self)
    have := ih (outStep o x) (all ++ [x]) hq'.2 h1 (fun y hy z hz => Int.le_trans (h2 y hy) (hq'.1 z hz))
    rw [List.append_assoc] at this
    exact this
/-- Where a sample comes to lie. -/
def cut (l : List (Int × Int)) (t : Int) : Nat → Nat
  | 0 => 0
  | k + 1 => match l[k]? with
    | some x => if t ≤ x.1 then cut l t k else k + 1
    | none => k + 1
theorem cut_le (l : List (Int × Int)) (t : Int) : ∀ k, cut l t k ≤ k
  | 0 => Nat.le_refl _
  | k + 1 => by
    unfold cut
    split
    · split
      · exact Nat.le_succ_of_le (cut_le l t k)
      · exact Nat.le_refl _
    · exact Nat.le_refl _
theorem cut_go {l : List (Int × Int)} {t : Int} {k : Nat} {x : Int × Int} (hx : l[k]? = some x) (h : t ≤ x.1) : cut l t (k + 1) = cut l t k := by
  rw [cut, hx]; exact if_pos h
theorem cut_stop {l : List (Int × Int)} {t : Int} {k : Nat} {x : Int × Int} (hx : l[k]? = some x) (h : ¬ t ≤ x.1) : cut l t (k + 1) = k + 1 := by
  rw [cut, hx]; exact if_neg h
theorem cut_below {l : List (Int × Int)} {t : Int} (hs : Strict l) : ∀ k, k ≤ l.length → ∀ i (hi : i < l.length), i < cut l t k → l[i].1 < t
  | 0, _, i, _, h => by simp [cut] at h
  | k + 1, hk, i, hi, h => by
    have hx : l[k]? = some l[k] := List.getElem?_eq_getElem (by omega)
    by_cases q : t ≤ l[k].1
    · rw [cut_go hx q] at h
      exact cut_below hs k (by omega) i hi h
    · rw [cut_stop hx q] at h
      by_cases e : i = k
      · subst e; omega
      · have := List.pairwise_iff_getElem.1 hs i k hi (by omega) (by omega); omega
theorem cut_above {l : List (Int × Int)} {t : Int} : ∀ k, k ≤ l.length → ∀ i (hi : i < l.length), cut l t k ≤ i → i < k → t ≤ l[i].1
  | 0, _, i, _, _, h => by omega
  | k + 1, hk, i, hi, h, h' => by
    have hx : l[k]? = some l[k] := List.getElem?_eq_getElem (by omega)
    by_cases q : t ≤ l[k].1
    · rw [cut_go hx q] at h
      by_cases e : i = k
      · subst e; exact q
      · exact cut_above k (by omega) i hi h (by omega)
    · rw [cut_stop hx q] at h; omega
/-- A sample at its place, in the place of one of its time. -/
def putIn (l : List (Int × Int)) (s : Int × Int) : List (Int × Int) :=
  let k := cut l s.1 l.length
  l.take k ++ s :: (match l[k]? with
    | some x => if x.1 = s.1 then l.drop (k + 1) else l.drop k
    | none => [])
theorem Of.put {r all : List (Int × Int)} (h : Of r all) (s : Int × Int) : Of (putIn r s) (all ++ [s]) := by
  obtain ⟨k, hk⟩ : ∃ k, cut r s.1 r.length = k := ⟨_, rfl⟩
  have hb : ∀ x ∈ r.take k, x.1 < s.1 := fun x hx => by
    obtain ⟨i, hi, e⟩ := List.mem_take_iff_getElem.1 hx
    rw [← e]
    exact cut_below h.1 r.length (Nat.le_refl _) i (by omega) (by rw [hk]; omega)
  have ha : ∀ x ∈ r.drop k, s.1 ≤ x.1 := fun x hx => by
    obtain ⟨i, hi, e⟩ := List.mem_drop_iff_getElem.1 hx
    rw [← e]
    exact cut_above r.length (Nat.le_refl _) _ (by omega) (by omega) (by omega)
  have hsplit : r = r.take k ++ r.drop k := (List.take_append_drop k r).symm
  -- what lies behind it
  obtain ⟨b, hb2⟩ : ∃ b, (match r[k]? with | some x => if x.1 = s.1 then r.drop (k + 1) else r.drop k | none => []) = b := ⟨_, rfl⟩
  have hpr := h.1
  rw [hsplit] at hpr
  have hpd := List.pairwise_append.1 hpr
  have hbb : b.Pairwise (fun x y => x.1 < y.1) ∧ (∀ x ∈ b, s.1 < x.1) ∧ (∀ x, s.1 ≠ x.1 → (x ∈ b ↔ x ∈ r.drop k)) := by
    cases hr : r[k]? with
    | none =>
      rw [hr] at hb2
      have : r.drop k = [] := List.drop_eq_nil_of_le (by simpa using hr)
      rw [← hb2, this]
      exact ⟨List.Pairwise.nil, fun x hx => (by cases hx), fun x _ => Iff.rfl⟩
    | some y =>
      rw [hr] at hb2
      obtain ⟨hkl, hy⟩ := List.getElem?_eq_some_iff.1 hr
      have hd : r.drop k = y :: r.drop (k + 1) := by rw [← hy]; exact List.drop_eq_getElem_cons hkl
      have hc := List.pairwise_cons.1 (hd ▸ hpd.2.1)
      by_cases e : y.1 = s.1
      · simp only [if_pos e] at hb2
        rw [← hb2, hd]
        refine ⟨hc.2, fun x hx => by have := hc.1 x hx; omega, fun x hx => ⟨List.mem_cons_of_mem _, fun q => ?_⟩⟩
        rcases List.mem_cons.1 q with q | q
        · exact absurd (by rw [q]; exact e.symm) hx
        · exact q
      · simp only [if_neg e] at hb2
        rw [← hb2]
        refine ⟨hpd.2.1, fun x hx => ?_, fun x _ => Iff.rfl⟩
        have h1 := ha x hx
        rw [hd] at hx
        have h2 := ha y (by rw [hd]; exact List.mem_cons_self)
        rcases List.mem_cons.1 hx with q | q
        · rw [q]; omega
        · have := hc.1 x q; omega
  have hput : putIn r s = r.take k ++ s :: b := by unfold putIn; rw [← hb2, hk]
  rw [hput]
  refine ⟨List.pairwise_append.2 ⟨hpd.1, List.pairwise_cons.2 ⟨hbb.2.1, hbb.1⟩, fun x hx y hy => ?_⟩, fun x => ?_⟩
  · have h1 := hb x hx
    rcases List.mem_cons.1 hy with q | q
    · rw [q]; exact h1
    · have := hbb.2.1 y q; omega
  · rw [lastV_snoc, List.mem_append, List.mem_cons]
    by_cases e : s.1 = x.1
    · rw [if_pos e]
      constructor
      · rintro (c | c | c)
        · have := hb x c; omega
        · rw [c]
        · have := hbb.2.1 x c; omega
      · exact fun c => .inr (.inl (Prod.ext e.symm (Option.some.inj c).symm))
    · rw [if_neg e, ← h.2 x]
      have hm : x ∈ r ↔ x ∈ r.take k ∨ x ∈ r.drop k := by conv => lhs; rw [hsplit]
                                                          exact List.mem_append
      rw [hm, hbb.2.2 x e]
      exact ⟨fun c => by rcases c with c | c | c
                         · exact .inl c
                         · exact absurd (by rw [c]) e
                         · exact .inr c, fun c => by rcases c with c | c
                                                     · exact .inl c
                                                     · exact .inr (.inr c)⟩
theorem puts_of (all : List (Int × Int)) : Of (all.foldl putIn []) all := by
  suffices H : ∀ (q o a : List (Int × Int)), Of o a → Of (q.foldl putIn o) (a ++ q) from H all [] [] Of.nil
  intro q
  induction q with
  | nil => intro o a h; rw [List.append_nil]; exact h
  | cons x q ih =>
    intro o a h
    have := ih _ _ (h.put x)
    rw [List.append_assoc] at this
    exact this
/-! ### The samples of all lists, sorted by their tags -/
theorem filter_stable (xs : List (Int × Int)) (t : Int) : (sortS xs).filter (fun x => x.1 == t) = xs.filter (fun x => x.1 == t) := by
  have h1 : (xs.filter (fun x => x.1 == t)).Sublist (sortS xs) := by
    refine List.sublist_mergeSort (fun a b c h g => by simp only [decide_eq_true_eq] at *; omega) (fun a b => by simp only [Bool.or_eq_true, decide_eq_true_eq]; omega) ?_ (List.filter_sublist)
    rw [List.pairwise_iff_getElem]
    intro i j hi hj _
    have h1 := (List.mem_filter.1 (List.getElem_mem hi)).2
    have h2 := (List.mem_filter.1 (List.getElem_mem hj)).2
    simp only [beq_iff_eq] at h1 h2
    simp only [decide_eq_true_eq]
    omega
  have h2 := h1.filter (fun x => x.1 == t)
  rw [List.filter_filter] at h2
  simp only [Bool.and_self] at h2
  refine (h2.eq_of_length ?_).symm
  exact ((List.mergeSort_perm xs _).filter _).length_eq.symm
theorem tags_map (rank : Int) : ∀ (i : Nat) (xs : List (Int × Int)), (tagsFrom rank i xs).map (fun a => (a.t, a.v)) = xs
  | _, [] => rfl
  | i, x :: r => by rw [tagsFrom, List.map_cons, tags_map rank (i + 1) r]
theorem tags_rank (rank : Int) : ∀ (i : Nat) (xs : List (Int × Int)), ∀ a ∈ tagsFrom rank i xs, a.rank = rank ∧ i ≤ a.idx
  | _, [], a, h => by cases h
  | i, x :: r, a, h => by
    rcases List.mem_cons.1 h with h | h
    · rw [h]; exact ⟨rfl, Nat.le_refl _⟩
    · have := tags_rank rank (i + 1) r a h; exact ⟨this.1, by omega⟩
theorem tags_rise (rank : Int) : ∀ (i : Nat) (xs : List (Int × Int)), (tagsFrom rank i xs).Pairwise (fun a b => a.rank = b.rank ∧ a.idx < b.idx)
  | _, [] => List.Pairwise.nil
  | i, x :: r => List.pairwise_cons.2 ⟨fun b hb => by have := tags_rank rank (i + 1) r b hb; exact ⟨this.1.symm, by show i < b.idx; omega⟩, tags_rise rank (i + 1) r⟩
theorem tagAll_rank : ∀ (i : Nat) (ls : List (List (Int × Int))), ∀ a ∈ tagAll i ls, (i : Int) ≤ a.rank
  | _, [], a, h => by cases h
  | i, xs :: r, a, h => by
    rcases List.mem_append.1 h with h | h
    · rw [(tags_rank _ _ _ a h).1]; exact Int.le_refl _
    · have := tagAll_rank (i + 1) r a h; omega
theorem tagAll_rise : ∀ (i : Nat) (ls : List (List (Int × Int))), (tagAll i ls).Pairwise (fun a b => a.rank < b.rank ∨ (a.rank = b.rank ∧ a.idx < b.idx))
  | _, [] => List.Pairwise.nil
  | i, xs :: r => List.pairwise_append.2 ⟨(tags_rise _ _ _).imp fun h => .inr h, tagAll_rise (i + 1) r, fun a ha b hb => .inl (by
      have h1 := (tags_rank _ _ _ a ha).1
      have h2 := tagAll_rank (i + 1) r b hb
      omega)⟩
theorem sortT_filter (ls : List (List (Int × Int))) (t : Int) : (sortT (tagAll 0 ls)).filter (fun a => a.t == t) = (tagAll 0 ls).filter (fun a => a.t == t) := by
  refine sorted_unique ((sortT_sorted _).filter _) ?_ ((sortT_perm _).filter _)
  have h := (tagAll_rise 0 ls).filter (fun a => a.t == t)
  rw [List.pairwise_iff_getElem] at h ⊢
  intro i j hi hj hij
  have h1 := (List.mem_filter.1 (List.getElem_mem hi)).2
  have h2 := (List.mem_filter.1 (List.getElem_mem hj)).2
  have h3 := h i j hi hj hij
  simp only [beq_iff_eq] at h1 h2
  unfold tle
  rw [decide_eq_true_eq]
  omega
theorem tagAll_filter (t : Int) : ∀ (i : Nat) (ls : List (List (Int × Int))), ((tagAll i ls).map (fun a => (a.t, a.v))).filter (fun x => x.1 == t) = ls.flatten.filter (fun x => x.1 == t)
  | _, [] => rfl
  | i, xs :: r => by
    rw [tagAll, List.map_append, List.filter_append, tags_map, filter_stable, tagAll_filter t (i + 1) r, List.flatten_cons, List.filter_append]
theorem lastV_sorted (ls : List (List (Int × Int))) (t : Int) : lastV ((sortT (tagAll 0 ls)).map fun a => (a.t, a.v)) t = lastV ls.flatten t := by
  unfold lastV
  rw [← tagAll_filter t 0 ls, List.filter_map, List.filter_map]
  show (Option.map _ (List.getLast? (List.map _ ((sortT (tagAll 0 ls)).filter (fun a => a.t == t))))) = (Option.map _ (List.getLast? (List.map _ ((tagAll 0 ls).filter (fun a => a.t == t)))))
  rw [sortT_filter]
/-- What merge.Samples puts together is what the document says. -/
theorem samples_law (ls : List (List (Int × Int))) : collapse (sortT (tagAll 0 ls)) = ls.flatten.foldl putIn [] := by
  refine Of.unique (all := ls.flatten) ?_ (puts_of _)
  refine Of.congr (collapse_of ?_) (lastV_sorted ls)
  rw [List.pairwise_map]
  refine (sortT_sorted _).imp fun {a b} h => ?_
  simp only [tle, decide_eq_true_eq] at h
  show a.t ≤ b.t
  omega
end Go.Proofs.YtihidnmpngeohaaGreat
