/- A pattern that stands in another one, ahead of a bracket, is read the same. No program in sight. -/
import Derived.Test.YtamlnkmcbbeicaaDoorG03
namespace Go.Proofs.YtamlnkmcbbeicaaDoor.RX

/-- Two that fit the same. -/
def Like (t u : Tr) : Prop := (∀ s i j, t.Fits s i j ↔ u.Fits s i j) ∧ t.empty = u.empty
inductive LikeL : List Tr → List Tr → Prop where
  | nil : LikeL [] []
  | cons {t u : Tr} {l m : List Tr} : Like t u → LikeL l m → LikeL (t :: l) (u :: m)
theorem Like.refl (t : Tr) : Like t t := ⟨fun _ _ _ => Iff.rfl, rfl⟩
theorem LikeL.snoc {l m : List Tr} {t u : Tr} (h : LikeL l m) (g : Like t u) : LikeL (l ++ [t]) (m ++ [u]) := by
  induction h with
  | nil => exact .cons g .nil
  | cons h1 _ ih => exact .cons h1 ih
theorem pow_congr {R Q : Nat → Nat → Prop} (h : ∀ i j, R i j ↔ Q i j) (n i j : Nat) : Pow R n i j ↔ Pow Q n i j := by
  obtain rfl : R = Q := by funext i j; exact propext (h i j)
  exact Iff.rfl
theorem Like.group {t u : Tr} (h : Like t u) (n m : Nat) : Like (.group n t) (.group m u) :=
  ⟨fun s i j => by rw [Tr.Fits, Tr.Fits]; exact h.1 s i j, by rw [Tr.empty, Tr.empty]; exact h.2⟩
theorem Like.rep {t u : Tr} (h : Like t u) (a : Nat) (b : Option Nat) (c d : Bool) : Like (.rep t a b c d) (.rep u a b c d) :=
  ⟨fun s i j => by rw [Tr.Fits, Tr.Fits]; exact exists_congr fun n => and_congr Iff.rfl (pow_congr (h.1 s) n i j), rfl⟩
theorem LikeL.row {l m : List Tr} (h : LikeL l m) : Like (.row l) (.row m) := by
  have hf : ∀ s i j, FitsRow s l i j ↔ FitsRow s m i j := by
    induction h with
    | nil => intro s i j; exact Iff.rfl
    | cons h1 _ ih =>
      intro s i j
      rw [FitsRow, FitsRow]
      exact exists_congr fun k => and_congr (h1.1 s i k) (ih s k j)
  have he : allEmpty l = allEmpty m := by
    clear hf
    induction h with
    | nil => rfl
    | cons h1 _ ih => rw [allEmpty, allEmpty, h1.2, ih]
  exact ⟨fun s i j => by rw [Tr.Fits, Tr.Fits]; exact hf s i j, by rw [Tr.empty, Tr.empty, he]⟩
theorem LikeL.alts {l m : List Tr} (h : LikeL l m) : Like (.alts l) (.alts m) := by
  have hf : ∀ s i j, FitsAny s l i j ↔ FitsAny s m i j := by
    induction h with
    | nil => intro s i j; exact Iff.rfl
    | @cons t u l m h1 h2 ih =>
      intro s i j
      cases h2 with
      | nil => rw [FitsAny, FitsAny]; exact h1.1 s i j
      | cons h3 h4 =>
        rw [FitsAny, FitsAny]
        exact or_congr (h1.1 s i j) (ih s i j)
  have he : anyEmpty l = anyEmpty m := by
    clear hf
    induction h with
    | nil => rfl
    | cons h1 _ ih => rw [anyEmpty, anyEmpty, h1.2, ih]
  exact ⟨fun s i j => by rw [Tr.Fits, Tr.Fits]; exact hf s i j, by rw [Tr.empty, Tr.empty, he]⟩

/-- s stands in s' from d on; behind it stands a bracket. -/
structure Emb (s s' : List UInt8) (d : Nat) : Prop where
  get : ∀ k, k < s.length → s'[d + k]? = s[k]?
  stop : s'[d + s.length]? = some 41
section
variable {s s' : List UInt8} {d : Nat}
theorem Emb.some_ (E : Emb s s' d) {k : Nat} {c : UInt8} (h : s[k]? = some c) : s'[d + k]? = some c := by
  rw [E.get k (List.getElem?_eq_some_iff.1 h).1, h]
theorem Emb.none_ (E : Emb s s' d) {k : Nat} (hk : k ≤ s.length) (h : s[k]? = none) : s'[d + k]? = some 41 := by
  rw [List.getElem?_eq_none_iff] at h
  obtain rfl : k = s.length := by omega
  exact E.stop
theorem Emb.iff (E : Emb s s' d) {k : Nat} (hk : k ≤ s.length) {c : UInt8} (hc : c ≠ 41) : s'[d + k]? = some c ↔ s[k]? = some c := by
  cases h : s[k]? with
  | none =>
    rw [E.none_ hk h]
    exact ⟨fun e => absurd (Option.some.inj e).symm hc, fun e => by cases e⟩
  | some b => rw [E.some_ h]
theorem Emb.lt (E : Emb s s' d) : d + s.length < s'.length := (List.getElem?_eq_some_iff.1 E.stop).1
theorem lt_of_some {k : Nat} {c : UInt8} (h : s[k]? = some c) : k < s.length := (List.getElem?_eq_some_iff.1 h).1
theorem num_emb (E : Emb s s' d) : ∀ (f k n : Nat), k ≤ s.length → numGo s' f (d + k) n = ((numGo s f k n).1, d + (numGo s f k n).2) ∧ (numGo s f k n).2 ≤ s.length
  | 0, k, n, hk => ⟨rfl, hk⟩
  | f + 1, k, n, hk => by
    rw [numGo, numGo]
    cases h : s[k]? with
    | none =>
      rw [E.none_ hk h]
      exact ⟨rfl, hk⟩
    | some c =>
      rw [E.some_ h]
      simp only
      by_cases hc : 48 ≤ c.toNat ∧ c.toNat ≤ 57
      · rw [if_pos hc, if_pos hc]
        exact num_emb E f (k + 1) _ (lt_of_some h)
      · rw [if_neg hc, if_neg hc]
        exact ⟨rfl, hk⟩
theorem number_emb (E : Emb s s' d) {k n e : Nat} (hk : k ≤ s.length) (h : number s k = .ok n e) : number s' (d + k) = .ok n (d + e) ∧ e ≤ s.length := by
  obtain ⟨h1, h2⟩ := num_emb E 4 k 0 hk
  unfold number at h ⊢
  rw [h1]
  split at h
  · cases h
  · rename_i hn
    cases h
    rw [if_neg (by simp only; omega)]
    exact ⟨rfl, h2⟩
theorem item_emb (E : Emb s s' d) {k e : Nat} {p : Nat → Bool} {b : Option UInt8} (h : item s k = .ok p b e) : item s' (d + k) = .ok p b (d + e) ∧ e ≤ s.length ∧ k < e := by
  unfold item at h ⊢
  cases hk : s[k]? with
  | none => rw [hk] at h; cases h
  | some c =>
    rw [hk] at h
    rw [E.some_ hk]
    simp only at h ⊢
    by_cases hc : c ≠ 92
    · rw [if_pos hc] at h ⊢
      cases h
      exact ⟨rfl, lt_of_some hk, by omega⟩
    · rw [if_neg hc] at h ⊢
      cases hk1 : s[k + 1]? with
      | none => rw [hk1] at h; cases h
      | some c1 =>
        rw [hk1] at h
        rw [Nat.add_assoc, E.some_ hk1]
        have hl := lt_of_some hk1
        simp only at h ⊢
        repeat' split at h
        all_goals first | (cases h; done) | skip
        all_goals
          simp only [It.ok.injEq] at h
          obtain ⟨rfl, rfl, rfl⟩ := h
          repeat (first | rw [if_pos (by assumption)] | rw [if_neg (by assumption)])
          exact ⟨rfl, hl, by omega⟩
theorem dash_emb (E : Emb s s' d) {k : Nat} (hk : k ≤ s.length) : dash s' (d + k) = dash s k := by
  unfold dash
  cases h : s[k]? with
  | none => rw [E.none_ hk h]; rfl
  | some c =>
    rw [E.some_ h]
    have hl := lt_of_some h
    have hlt := E.lt
    congr 1
    cases h1 : s[k + 1]? with
    | none =>
      rw [Nat.add_assoc, E.none_ hl h1]
      rw [List.getElem?_eq_none_iff] at h1
      have : k + 1 = s.length := by omega
      simp [this]
    | some b =>
      rw [Nat.add_assoc, E.some_ h1]
      have := lt_of_some h1
      rw [show (d + (k + 1) == s'.length) = false by simp; omega, show (k + 1 == s.length) = false by simp; omega]
theorem class_emb (E : Emb s s' d) : ∀ (f f' : Nat) (first : Bool) (k e : Nat) (p q : Nat → Bool), f ≤ f' → k ≤ s.length → classGo s f first k p = .ok q e → classGo s' f' first (d + k) p = .ok q (d + e) ∧ e ≤ s.length
  | 0, _, _, _, _, _, _, _, _, h => by rw [classGo] at h; cases h
  | f + 1, 0, _, _, _, _, _, hf, _, _ => by omega
  | f + 1, f' + 1, first, k, e, p, q, hf, hk, h => by
    have hlt := E.lt
    rw [classGo] at h ⊢
    by_cases h1 : first = false ∧ s[k]? = some 93
    · rw [if_pos h1] at h
      cases h
      rw [if_pos ⟨h1.1, E.some_ h1.2⟩]
      exact ⟨rfl, lt_of_some h1.2⟩
    rw [if_neg h1] at h
    rw [if_neg (fun g => h1 ⟨g.1, (E.iff hk (by decide)).1 g.2⟩)]
    by_cases h2 : first = false ∧ s[k]? = some 45 ∧ k + 1 = s.length
    · rw [if_pos h2] at h; cases h
    rw [if_neg h2] at h
    rw [if_neg (fun g => h2 ⟨g.1, (E.iff hk (by decide)).1 g.2.1, by
      have := lt_of_some ((E.iff hk (by decide)).1 g.2.1)
      omega⟩)]
    by_cases h3 : s[k]? = none ∨ (first = true ∧ s[k]? = some 93) ∨ (first = false ∧ dash s k = true)
    · rw [if_pos h3] at h; cases h
    rw [if_neg h3] at h
    rw [if_neg (fun g => h3 (by
      rcases g with g | g | g
      · cases h0 : s[k]? with
        | none => exact .inl rfl
        | some b => rw [E.some_ h0] at g; cases g
      · exact .inr (.inl ⟨g.1, (E.iff hk (by decide)).1 g.2⟩)
      · exact .inr (.inr ⟨g.1, by rw [← dash_emb E hk]; exact g.2⟩)))]
    cases hi : item s k with
    | bad a => rw [hi] at h; cases h
    | ok q1 from_ k1 =>
      rw [hi] at h
      obtain ⟨hi', hk1, _⟩ := item_emb E hi
      rw [hi']
      simp only at h ⊢
      cases from_ with
      | none => exact class_emb E f f' false k1 e _ q (by omega) hk1 h
      | some a =>
        simp only at h ⊢
        rw [dash_emb E hk1]
        by_cases hd : dash s k1 = true
        · rw [if_pos hd] at h ⊢
          by_cases hn : s[k1 + 1]? = none
          · rw [if_pos hn] at h; cases h
          rw [if_neg hn] at h
          obtain ⟨c, hc⟩ : ∃ c, s[k1 + 1]? = some c := Option.ne_none_iff_exists'.1 hn
          rw [if_neg (by rw [Nat.add_assoc, E.some_ hc]; simp)]
          cases hi2 : item s (k1 + 1) with
          | bad a => rw [hi2] at h; cases h
          | ok q2 to k2 =>
            rw [hi2] at h
            obtain ⟨hi2', hk2, _⟩ := item_emb E hi2
            rw [Nat.add_assoc, hi2']
            simp only at h ⊢
            cases to with
            | none => cases h
            | some b =>
              simp only at h ⊢
              by_cases hb : b.toNat < a.toNat
              · rw [if_pos hb] at h; cases h
              rw [if_neg hb] at h ⊢
              exact class_emb E f f' false k2 e _ q (by omega) hk2 h
        · rw [if_neg hd] at h ⊢
          exact class_emb E f f' false k1 e _ q (by omega) hk1 h
theorem cls_emb (E : Emb s s' d) {k e : Nat} {p : Nat → Bool} (hk : k ≤ s.length) (h : cls s k = .ok p e) : cls s' (d + k) = .ok p (d + e) ∧ e ≤ s.length := by
  have hlt := E.lt
  unfold cls at h ⊢
  have hn : (s'[d + k]? == some 94) = (s[k]? == some 94) := by
    have := E.iff hk (c := 94) (by decide)
    by_cases g : s[k]? = some 94
    · rw [g, this.2 g]
    · rw [beq_eq_false_iff_ne.2 g, beq_eq_false_iff_ne.2 (fun e => g (this.1 e))]
  rw [hn]
  simp only at h ⊢
  cases hb : (s[k]? == some 94) with
  | true =>
    rw [hb] at h
    simp only [if_true] at h ⊢
    have hl := lt_of_some (eq_of_beq hb)
    cases hc : classGo s (s.length + 1) true (k + 1) (fun _ => false) with
    | bad a => rw [hc] at h; cases h
    | ok q e2 =>
      rw [hc] at h
      cases h
      obtain ⟨h1, h2⟩ := class_emb E (s.length + 1) (s'.length + 1) true (k + 1) e _ q (by omega) hl hc
      rw [Nat.add_assoc, h1]
      exact ⟨rfl, h2⟩
  | false =>
    rw [hb] at h
    simp only [Bool.false_eq_true, if_false] at h ⊢
    cases hc : classGo s (s.length + 1) true k (fun _ => false) with
    | bad a => rw [hc] at h; cases h
    | ok q e2 =>
      rw [hc] at h
      cases h
      obtain ⟨h1, h2⟩ := class_emb E (s.length + 1) (s'.length + 1) true k e _ q (by omega) hk hc
      rw [h1]
      exact ⟨rfl, h2⟩
/-- The same state, d bytes, g groups, e brackets on. -/
def On (d g e : Nat) (st st' : PS) : Prop := st'.at_ = d + st.at_ ∧ st'.groups = g + st.groups ∧ st'.deep = e + st.deep
def Sim (s : List UInt8) (d g e : Nat) (A A' : PS → Pr Tr) : Prop := ∀ st st' t st2, On d g e st st' → st.at_ ≤ s.length → A st = .ok t st2 → ∃ t' st2', A' st' = .ok t' st2' ∧ Like t t' ∧ On d g e st2 st2' ∧ st2.at_ ≤ s.length ∧ st2.deep = st.deep
variable {g e : Nat} {A A' : PS → Pr Tr}
theorem On.to {st st' : PS} (h : On d g e st st') (k : Nat) : On d g e (st.to k) (st'.to (d + k)) := ⟨rfl, h.2.1, h.2.2⟩
theorem close_emb (E : Emb s s' d) {r r' : Pr Tr} {n n' dp : Nat} {t : Tr} {st2 : PS} (hr : ∀ t st, r = .ok t st → ∃ t' st', r' = .ok t' st' ∧ Like t t' ∧ On d g e st st' ∧ st.at_ ≤ s.length ∧ st.deep = dp + 1) (hn : 0 < n ↔ 0 < n') (h : pClose s r n = .ok t st2) :
    ∃ t' st2', pClose s' r' n' = .ok t' st2' ∧ Like t t' ∧ On d g e st2 st2' ∧ st2.at_ ≤ s.length ∧ st2.deep = dp := by
  cases r with
  | bad a => cases h
  | ok u st =>
    obtain ⟨u', st', rfl, hl, ho, hle, hdp⟩ := hr u st rfl
    rw [pClose] at h ⊢
    by_cases hc : s[st.at_]? = some 41
    · rw [if_pos hc] at h
      rw [if_pos (by rw [ho.1]; exact E.some_ hc)]
      cases h
      refine ⟨_, _, rfl, ?_, ⟨by rw [ho.1]; rfl, ho.2.1, by show st'.deep - 1 = e + (st.deep - 1); have := ho.2.2; omega⟩, lt_of_some hc, by show st.deep - 1 = dp; omega⟩
      by_cases hp : 0 < n
      · rw [if_pos hp, if_pos (hn.1 hp)]; exact hl.group _ _
      · rw [if_neg hp, if_neg (fun q => hp (hn.2 q))]; exact hl
    · rw [if_neg hc] at h; cases h
theorem paren_emb (E : Emb s s' d) (S : Sim s d g e A A') {st st' st2 : PS} {t : Tr} (ho : On d g e st st') (hk : st.at_ ≤ s.length) (h : pParen A s st = .ok t st2) :
    ∃ t' st2', pParen A' s' st' = .ok t' st2' ∧ Like t t' ∧ On d g e st2 st2' ∧ st2.at_ ≤ s.length ∧ st2.deep = st.deep := by
  rw [pParen] at h ⊢
  rw [ho.1]
  by_cases h1 : s[st.at_]? = some 63
  · rw [if_pos h1] at h
    rw [if_pos (E.some_ h1)]
    by_cases h2 : s[st.at_ + 1]? = some 58
    · rw [if_pos h2] at h
      rw [if_pos (by rw [Nat.add_assoc]; exact E.some_ h2)]
      refine close_emb E (fun u su hu => ?_) Iff.rfl h
      obtain ⟨u', su', h3, h4, h5, h6, h7⟩ := S ⟨st.at_ + 2, st.groups, st.deep + 1, max st.deeper (st.deep + 1)⟩ ⟨d + st.at_ + 2, st'.groups, st'.deep + 1, max st'.deeper (st'.deep + 1)⟩ u su ⟨rfl, ho.2.1, by show st'.deep + 1 = e + (st.deep + 1); have := ho.2.2; omega⟩ (lt_of_some h2) hu
      exact ⟨u', su', h3, h4, h5, h6, h7⟩
    · rw [if_neg h2] at h; cases h
  · rw [if_neg h1] at h
    rw [if_neg (fun q => h1 ((E.iff hk (by decide)).1 q))]
    refine close_emb E (fun u su hu => ?_) ⟨fun _ => Nat.succ_pos _, fun _ => Nat.succ_pos _⟩ h
    obtain ⟨u', su', h3, h4, h5, h6, h7⟩ := S ⟨st.at_, st.groups + 1, st.deep + 1, max st.deeper (st.deep + 1)⟩ ⟨d + st.at_, st'.groups + 1, st'.deep + 1, max st'.deeper (st'.deep + 1)⟩ u su ⟨rfl, by show st'.groups + 1 = g + (st.groups + 1); have := ho.2.1; omega, by show st'.deep + 1 = e + (st.deep + 1); have := ho.2.2; omega⟩ hk hu
    exact ⟨u', su', h3, h4, h5, h6, h7⟩
theorem atom_emb (E : Emb s s' d) (S : Sim s d g e A A') {st st' st2 : PS} {t : Tr} (ho : On d g e st st') (h : pAtom A s st = .ok t st2) :
    ∃ t' st2', pAtom A' s' st' = .ok t' st2' ∧ Like t t' ∧ On d g e st2 st2' ∧ st2.at_ ≤ s.length ∧ st2.deep = st.deep := by
  rw [pAtom] at h ⊢
  rw [ho.1]
  cases hc : s[st.at_]? with
  | none => rw [hc] at h; cases h
  | some c =>
    rw [hc] at h
    rw [E.some_ hc]
    have hl := lt_of_some hc
    simp only at h ⊢
    by_cases h1 : c = 93 ∨ c = 42 ∨ c = 43 ∨ c = 63 ∨ c = 123 ∨ c = 125
    · rw [if_pos h1] at h; cases h
    rw [if_neg h1] at h ⊢
    by_cases h2 : c = 46
    · rw [if_pos h2] at h ⊢
      cases h
      exact ⟨_, _, rfl, Like.refl _, ho.to _, hl, rfl⟩
    rw [if_neg h2] at h ⊢
    by_cases h3 : c = 94
    · rw [if_pos h3] at h ⊢
      cases h
      exact ⟨_, _, rfl, Like.refl _, ho.to _, hl, rfl⟩
    rw [if_neg h3] at h ⊢
    by_cases h4 : c = 36
    · rw [if_pos h4] at h ⊢
      cases h
      exact ⟨_, _, rfl, Like.refl _, ho.to _, hl, rfl⟩
    rw [if_neg h4] at h ⊢
    by_cases h5 : c = 91
    · rw [if_pos h5] at h ⊢
      cases hcl : cls s (st.at_ + 1) with
      | bad a => rw [hcl] at h; cases h
      | ok p k =>
        rw [hcl] at h
        cases h
        obtain ⟨h6, h7⟩ := cls_emb E hl hcl
        rw [Nat.add_assoc, h6]
        exact ⟨_, _, rfl, Like.refl _, ho.to _, h7, rfl⟩
    rw [if_neg h5] at h ⊢
    by_cases h6 : c = 40
    · rw [if_pos h6] at h ⊢
      exact paren_emb E S (st := st.to (st.at_ + 1)) (ho.to _) hl h
    rw [if_neg h6] at h ⊢
    cases hi : item s st.at_ with
    | bad a => rw [hi] at h; cases h
    | ok p b k =>
      rw [hi] at h
      cases h
      obtain ⟨h7, h8, _⟩ := item_emb E hi
      rw [h7]
      exact ⟨_, _, rfl, Like.refl _, ho.to _, h8, rfl⟩
theorem lazy_emb (E : Emb s s' d) {st st' st2 : PS} {t t' u : Tr} {a : Nat} {b : Option Nat} {c : Bool} {k : Nat} (hl : Like t t') (ho : On d g e st st') (hk : k ≤ s.length) (h : pLazy s t a b c st k = .ok u st2) :
    ∃ u' st2', pLazy s' t' a b c st' (d + k) = .ok u' st2' ∧ Like u u' ∧ On d g e st2 st2' ∧ st2.at_ ≤ s.length ∧ st2.deep = st.deep := by
  rw [pLazy] at h ⊢
  by_cases h1 : s[k]? = some 63
  · rw [if_pos h1] at h
    rw [if_pos (E.some_ h1)]
    cases h
    exact ⟨_, _, rfl, hl.rep _ _ _ _, ho.to _, lt_of_some h1, rfl⟩
  · rw [if_neg h1] at h
    rw [if_neg (fun q => h1 ((E.iff hk (by decide)).1 q))]
    cases h
    exact ⟨_, _, rfl, hl.rep _ _ _ _, ho.to _, hk, rfl⟩
theorem brace_emb (E : Emb s s' d) {st st' st2 : PS} {t t' u : Tr} {a : Nat} {b : Option Nat} {k : Nat} (hl : Like t t') (ho : On d g e st st') (h : pBrace s t a b st k = .ok u st2) :
    ∃ u' st2', pBrace s' t' a b st' (d + k) = .ok u' st2' ∧ Like u u' ∧ On d g e st2 st2' ∧ st2.at_ ≤ s.length ∧ st2.deep = st.deep := by
  rw [pBrace] at h ⊢
  by_cases h1 : s[k]? = some 125
  · rw [if_pos h1] at h
    rw [if_pos (E.some_ h1)]
    exact lazy_emb E hl ho (lt_of_some h1) h
  · rw [if_neg h1] at h; cases h
theorem count_emb (E : Emb s s' d) {st st' st2 : PS} {t t' u : Tr} (hl : Like t t') (ho : On d g e st st') (hk : st.at_ < s.length) (h : pCount s t st = .ok u st2) :
    ∃ u' st2', pCount s' t' st' = .ok u' st2' ∧ Like u u' ∧ On d g e st2 st2' ∧ st2.at_ ≤ s.length ∧ st2.deep = st.deep := by
  rw [pCount] at h ⊢
  rw [ho.1, Nat.add_assoc]
  cases hn : number s (st.at_ + 1) with
  | bad a => rw [hn] at h; cases h
  | ok n k =>
    rw [hn] at h
    obtain ⟨h1, h2⟩ := number_emb E hk hn
    rw [h1]
    simp only at h ⊢
    by_cases h3 : s[k]? = some 44
    · rw [if_pos h3] at h
      rw [if_pos (E.some_ h3)]
      have hl3 := lt_of_some h3
      by_cases h4 : s[k + 1]? = some 125
      · rw [if_pos h4] at h
        rw [if_pos (by rw [Nat.add_assoc]; exact E.some_ h4)]
        exact brace_emb E hl ho h
      · rw [if_neg h4] at h
        rw [if_neg (fun q => h4 ((E.iff hl3 (by decide)).1 (by rw [Nat.add_assoc] at q; exact q)))]
        rw [pMost] at h ⊢
        cases hm : number s (k + 1) with
        | bad a => rw [hm] at h; cases h
        | ok m k2 =>
          rw [hm] at h
          obtain ⟨h5, h6⟩ := number_emb E hl3 hm
          rw [Nat.add_assoc, h5]
          simp only at h ⊢
          by_cases h7 : m < n
          · rw [if_pos h7] at h; cases h
          · rw [if_neg h7] at h ⊢
            exact brace_emb E hl ho h
    · rw [if_neg h3] at h
      rw [if_neg (fun q => h3 ((E.iff h2 (by decide)).1 q))]
      exact brace_emb E hl ho h
theorem piece_emb (E : Emb s s' d) (S : Sim s d g e A A') {st st' st2 : PS} {t : Tr} (ho : On d g e st st') (h : pPiece A s st = .ok t st2) :
    ∃ t' st2', pPiece A' s' st' = .ok t' st2' ∧ Like t t' ∧ On d g e st2 st2' ∧ st2.at_ ≤ s.length ∧ st2.deep = st.deep := by
  rw [pPiece] at h ⊢
  cases ha : pAtom A s st with
  | bad a => rw [ha] at h; cases h
  | ok u st1 =>
    rw [ha] at h
    obtain ⟨u', st1', h1, h2, h3, h4, h5⟩ := atom_emb E S ho ha
    rw [h1]
    simp only at h ⊢
    rw [h3.1]
    cases hc : s[st1.at_]? with
    | none =>
      rw [hc] at h
      rw [E.none_ h4 hc]
      cases h
      simp only
      rw [if_neg (fun q => absurd q.1 (by decide)), if_neg (by decide), if_neg (by decide), if_neg (by decide), if_neg (by decide)]
      exact ⟨_, _, rfl, h2, h3, h4, h5⟩
    | some c =>
      rw [hc] at h
      rw [E.some_ hc]
      have hl := lt_of_some hc
      simp only at h ⊢
      rw [← h2.2]
      by_cases e1 : (c = 42 ∨ c = 43 ∨ c = 63 ∨ c = 123) ∧ u.empty = true
      · rw [if_pos e1] at h; cases h
      rw [if_neg e1] at h ⊢
      have fin : ∀ {X : Pr Tr}, (∃ u' st2', X = .ok u' st2' ∧ Like t u' ∧ On d g e st2 st2' ∧ st2.at_ ≤ s.length ∧ st2.deep = st1.deep) → ∃ u' st2', X = .ok u' st2' ∧ Like t u' ∧ On d g e st2 st2' ∧ st2.at_ ≤ s.length ∧ st2.deep = st.deep := fun ⟨a, b, c1, c2, c3, c4, c5⟩ => ⟨a, b, c1, c2, c3, c4, c5.trans h5⟩
      by_cases e2 : c = 42
      · rw [if_pos e2] at h ⊢
        exact fin (lazy_emb E h2 h3 hl h)
      rw [if_neg e2] at h ⊢
      by_cases e3 : c = 43
      · rw [if_pos e3] at h ⊢
        exact fin (lazy_emb E h2 h3 hl h)
      rw [if_neg e3] at h ⊢
      by_cases e4 : c = 63
      · rw [if_pos e4] at h ⊢
        exact fin (lazy_emb E h2 h3 hl h)
      rw [if_neg e4] at h ⊢
      by_cases e5 : c = 123
      · rw [if_pos e5] at h ⊢
        exact fin (count_emb E h2 h3 hl h)
      rw [if_neg e5] at h ⊢
      cases h
      exact ⟨_, _, rfl, h2, h3, h4, h5⟩
theorem row_emb (E : Emb s s' d) (S : Sim s d g e A A') : ∀ (f f' : Nat) (st st' st2 : PS) (acc acc' : List Tr) (t : Tr), f ≤ f' → On d g e st st' → st.at_ ≤ s.length → LikeL acc acc' → pRow A s f st acc = .ok t st2 →
    ∃ t' st2', pRow A' s' f' st' acc' = .ok t' st2' ∧ Like t t' ∧ On d g e st2 st2' ∧ st2.at_ ≤ s.length ∧ st2.deep = st.deep
  | 0, _, _, _, _, _, _, _, _, _, _, _, h => by rw [pRow] at h; cases h
  | f + 1, 0, _, _, _, _, _, _, hf, _, _, _, _ => by omega
  | f + 1, f' + 1, st, st', st2, acc, acc', t, hf, ho, hk, hl, h => by
    rw [pRow] at h ⊢
    rw [ho.1]
    cases hc : s[st.at_]? with
    | none =>
      rw [hc] at h
      rw [E.none_ hk hc]
      cases h
      simp only
      rw [if_pos (.inr trivial)]
      exact ⟨_, _, rfl, hl.row, ho, hk, trivial⟩
    | some c =>
      rw [hc] at h
      rw [E.some_ hc]
      simp only at h ⊢
      by_cases e1 : c = 124 ∨ c = 41
      · rw [if_pos e1] at h ⊢
        cases h
        exact ⟨_, _, rfl, hl.row, ho, hk, rfl⟩
      rw [if_neg e1] at h ⊢
      cases hp : pPiece A s st with
      | bad a => rw [hp] at h; cases h
      | ok u st1 =>
        rw [hp] at h
        obtain ⟨u', st1', h1, h2, h3, h4, h5⟩ := piece_emb E S ho hp
        rw [h1]
        simp only at h ⊢
        obtain ⟨t', st2', g1, g2, g3, g4, g5⟩ := row_emb E S f f' st1 st1' st2 _ _ t (by omega) h3 h4 (hl.snoc h2) h
        exact ⟨t', st2', g1, g2, g3, g4, g5.trans h5⟩
theorem alts_emb (E : Emb s s' d) (S : Sim s d g e A A') : ∀ (f f' : Nat) (st st' st2 : PS) (acc acc' : List Tr) (t : Tr), f ≤ f' → On d g e st st' → st.at_ ≤ s.length → LikeL acc acc' → pAlts A s f st acc = .ok t st2 →
    ∃ t' st2', pAlts A' s' f' st' acc' = .ok t' st2' ∧ Like t t' ∧ On d g e st2 st2' ∧ st2.at_ ≤ s.length ∧ st2.deep = st.deep
  | 0, _, _, _, _, _, _, _, _, _, _, _, h => by rw [pAlts] at h; cases h
  | f + 1, 0, _, _, _, _, _, _, hf, _, _, _, _ => by omega
  | f + 1, f' + 1, st, st', st2, acc, acc', t, hf, ho, hk, hl, h => by
    have hlt := E.lt
    rw [pAlts] at h ⊢
    rw [ho.1]
    by_cases e1 : s[st.at_]? = some 124
    · rw [if_pos e1] at h
      rw [if_pos (E.some_ e1)]
      cases hp : pRow A s (s.length + 1) (st.to (st.at_ + 1)) [] with
      | bad a => rw [hp] at h; cases h
      | ok u st1 =>
        rw [hp] at h
        obtain ⟨u', st1', h1, h2, h3, h4, h5⟩ := row_emb E S (s.length + 1) (s'.length + 1) (st.to (st.at_ + 1)) (st'.to (d + (st.at_ + 1))) st1 [] [] u (by omega) (ho.to _) (lt_of_some e1) .nil hp
        rw [Nat.add_assoc, h1]
        simp only at h ⊢
        obtain ⟨t', st2', g1, g2, g3, g4, g5⟩ := alts_emb E S f f' st1 st1' st2 _ _ t (by omega) h3 h4 (hl.snoc h2) h
        exact ⟨t', st2', g1, g2, g3, g4, g5.trans h5⟩
    · rw [if_neg e1] at h
      rw [if_neg (fun q => e1 ((E.iff hk (by decide)).1 q))]
      cases h
      exact ⟨_, _, rfl, hl.alts, ho, hk, rfl⟩
/-- A pattern that stands in another one is read the same. -/
theorem all_emb (E : Emb s s' d) : ∀ (f f' : Nat), f ≤ f' → Sim s d g e (pAll s f) (pAll s' f')
  | 0, _, _ => fun st st' t st2 _ _ h => by rw [pAll] at h; cases h
  | f + 1, 0, hf => by omega
  | f + 1, f' + 1, hf => fun st st' t st2 ho hk h => by
    have hlt := E.lt
    have S := all_emb E f f' (by omega)
    rw [pAll] at h ⊢
    cases hp : pRow (pAll s f) s (s.length + 1) st [] with
    | bad a => rw [hp] at h; cases h
    | ok u st1 =>
      rw [hp] at h
      obtain ⟨u', st1', h1, h2, h3, h4, h5⟩ := row_emb E S (s.length + 1) (s'.length + 1) st st' st1 [] [] u (by omega) ho hk .nil hp
      rw [h1]
      simp only at h ⊢
      obtain ⟨t', st2', g1, g2, g3, g4, g5⟩ := alts_emb E S (s.length + 1) (s'.length + 1) st1 st1' st2 _ _ t (by omega) h3 h4 (LikeL.cons h2 .nil) h
      exact ⟨t', st2', g1, g2, g3, g4, g5.trans h5⟩
end
end Go.Proofs.YtamlnkmcbbeicaaDoor.RX
