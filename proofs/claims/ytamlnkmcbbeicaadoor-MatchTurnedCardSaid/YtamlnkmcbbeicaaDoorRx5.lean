/- The laws of chapter 08 in plain Lean: parts, word, times. No program in sight. -/
import Derived.Test.YtamlnkmcbbeicaaDoorRx4
namespace Go.Proofs.YtamlnkmcbbeicaaDoor.RX

def compileRx (p : List UInt8) : Option (Tr × Nat) := if 500 < p.length then none else match readRx p with
  | .ok t g => some (t, g)
  | .bad _ _ => none
/-- Whether a pattern is one, and fits. -/
def fitsRx (p s : List UInt8) : Option Bool := (compileRx p).map fun x => (runRx (machine x.1) (2 * x.2 + 2) s).isSome
theorem fits_of {p s : List UInt8} {x : Bool} (h : fitsRx p s = some x) : ∃ t g, readRx p = .ok t g ∧ p.length ≤ 500 ∧ (x = true ↔ t.Fits s 0 s.length) := by
  unfold fitsRx compileRx at h
  split at h
  · cases h
  · rename_i hl
    cases hr : readRx p with
    | bad a b => rw [hr] at h; cases h
    | ok t g =>
      rw [hr] at h
      simp only [Option.map_some, Option.some.injEq] at h
      exact ⟨t, g, rfl, by omega, by rw [← h]; exact run_fits t _ s⟩
theorem of_fits {p : List UInt8} {t : Tr} {g : Nat} (hr : readRx p = .ok t g) (hl : p.length ≤ 500) (s : List UInt8) : ∃ x, fitsRx p s = some x ∧ (x = true ↔ t.Fits s 0 s.length) := by
  refine ⟨_, ?_, run_fits t (2 * g + 2) s⟩
  unfold fitsRx compileRx
  rw [if_neg (by omega), hr]
  rfl
theorem read_of {p : List UInt8} {t : Tr} {g : Nat} (h : readRx p = .ok t g) : ∃ st, pAll p (p.length + 1) ⟨0, 0, 0, 0⟩ = .ok t st ∧ p.length ≤ st.at_ := by
  unfold readRx at h
  split at h
  · cases h
  · rename_i u st hp
    split at h
    · cases h
    · rename_i hlt
      split at h
      · cases h
      · cases h
        exact ⟨st, hp, by omega⟩
theorem emb_mid (pre p post : List UInt8) : Emb p (pre ++ (p ++ 41 :: post)) pre.length where
  get k hk := by rw [List.getElem?_append_right (by omega), Nat.add_sub_cancel_left, List.getElem?_append_left hk]
  stop := by rw [List.getElem?_append_right (by omega), Nat.add_sub_cancel_left, List.getElem?_append_right (Nat.le_refl _), Nat.sub_self]; rfl
theorem get_mid (pre p post : List UInt8) (j : Nat) : (pre ++ (p ++ 41 :: post))[pre.length + p.length + 1 + j]? = post[j]? := by
  rw [List.getElem?_append_right (by omega), List.getElem?_append_right (by omega), show pre.length + p.length + 1 + j - pre.length - p.length = j + 1 by omega]
  rfl
/-- A pattern that stands by itself stands in brackets. -/
theorem sub_atom {p S : List UInt8} {d g f : Nat} {tp : Tr} (hp : readRx p = .ok tp g) (E : Emb p S d) (hf : p.length + 1 ≤ f) (st : PS) (hst : st.at_ = d) :
    ∃ t' st2, pAll S f st = .ok t' st2 ∧ Like tp t' ∧ st2.at_ = d + p.length := by
  obtain ⟨st0, h1, h2⟩ := read_of hp
  obtain ⟨t', st2, h3, h4, h5, h6, _⟩ := all_emb (g := st.groups) (e := st.deep) E _ f hf ⟨0, 0, 0, 0⟩ st tp st0 ⟨hst, rfl, rfl⟩ (Nat.zero_le _) h1
  exact ⟨t', st2, h3, h4, by rw [h5.1]; omega⟩
/-- "(?:" and the pattern and ")". -/
theorem plain_atom {p S : List UInt8} {k g f : Nat} {tp : Tr} (hp : readRx p = .ok tp g) (E : Emb p S (k + 3)) (h0 : S[k]? = some 40) (h1 : S[k + 1]? = some 63) (h2 : S[k + 2]? = some 58) (hf : p.length + 1 ≤ f) (st : PS) (hst : st.at_ = k) :
    ∃ t' st2, pAtom (pAll S f) S st = .ok t' st2 ∧ Like tp t' ∧ st2.at_ = k + 3 + p.length + 1 := by
  rw [pAtom, hst, h0]
  simp only
  rw [if_neg (by decide), if_neg (by decide), if_neg (by decide), if_neg (by decide), if_neg (by decide), if_pos trivial, pParen]
  rw [show (st.to (k + 1)).at_ = k + 1 from rfl, if_pos h1, if_pos h2]
  obtain ⟨t', st2, h3, h4, h5⟩ := sub_atom hp E hf ⟨k + 1 + 2, (st.to (k + 1)).groups, (st.to (k + 1)).deep + 1, max (st.to (k + 1)).deeper ((st.to (k + 1)).deep + 1)⟩ rfl
  rw [h3, pClose, h5, if_pos E.stop]
  exact ⟨_, _, rfl, h4, rfl⟩
/-- "(" and the pattern and ")". -/
theorem group_atom {p S : List UInt8} {k g f : Nat} {tp : Tr} (hp : readRx p = .ok tp g) (E : Emb p S (k + 1)) (h0 : S[k]? = some 40) (h1 : S[k + 1]? ≠ some 63) (hf : p.length + 1 ≤ f) (st : PS) (hst : st.at_ = k) :
    ∃ t' st2, pAtom (pAll S f) S st = .ok t' st2 ∧ Like tp t' ∧ st2.at_ = k + 1 + p.length + 1 := by
  rw [pAtom, hst, h0]
  simp only
  rw [if_neg (by decide), if_neg (by decide), if_neg (by decide), if_neg (by decide), if_neg (by decide), if_pos trivial, pParen]
  rw [show (st.to (k + 1)).at_ = k + 1 from rfl, if_neg h1]
  obtain ⟨t', st2, h3, h4, h5⟩ := sub_atom hp E hf ⟨k + 1, (st.to (k + 1)).groups + 1, (st.to (k + 1)).deep + 1, max (st.to (k + 1)).deeper ((st.to (k + 1)).deep + 1)⟩ rfl
  rw [h3, pClose, h5, if_pos E.stop, if_pos (Nat.succ_pos _)]
  refine ⟨_, _, rfl, ⟨fun s i j => ?_, ?_⟩, rfl⟩
  · rw [Tr.Fits]; exact h4.1 s i j
  · rw [Tr.empty]; exact h4.2
theorem piece_plain {A : PS → Pr Tr} {S : List UInt8} {st st1 : PS} {t : Tr} (h : pAtom A S st = .ok t st1) (hn : ∀ c, S[st1.at_]? = some c → c ≠ 42 ∧ c ≠ 43 ∧ c ≠ 63 ∧ c ≠ 123) : pPiece A S st = .ok t st1 := by
  rw [pPiece, h]
  simp only
  cases hc : S[st1.at_]? with
  | none => rfl
  | some c =>
    obtain ⟨h1, h2, h3, h4⟩ := hn c hc
    simp only
    rw [if_neg (fun q => by rcases q.1 with e | e | e | e <;> contradiction), if_neg h1, if_neg h2, if_neg h3, if_neg h4]
/-- The law of a choice. -/
theorem parts_or {p q s : List UInt8} {x y z : Bool} (hp : fitsRx p s = some x) (hq : fitsRx q s = some y) (hz : fitsRx ([40, 63, 58] ++ (p ++ 41 :: ([124, 40, 63, 58] ++ (q ++ [41])))) s = some z) : z = (x || y) := by
  obtain ⟨tp, gp, hp1, _, hp2⟩ := fits_of hp
  obtain ⟨tq, gq, hq1, _, hq2⟩ := fits_of hq
  obtain ⟨t, g, ht1, _, ht2⟩ := fits_of hz
  obtain ⟨st, hr, _⟩ := read_of ht1
  have E1 := emb_mid [40, 63, 58] p ([124, 40, 63, 58] ++ (q ++ [41]))
  have E2 := emb_mid ([40, 63, 58] ++ (p ++ [41, 124, 40, 63, 58])) q []
  have gm := get_mid [40, 63, 58] p ([124, 40, 63, 58] ++ (q ++ [41]))
  have eS : [40, 63, 58] ++ (p ++ [41, 124, 40, 63, 58]) ++ (q ++ 41 :: []) = [40, 63, 58] ++ (p ++ 41 :: ([124, 40, 63, 58] ++ (q ++ [41]))) := by simp
  rw [eS] at E2
  obtain ⟨S, hS⟩ : ∃ S, [40, 63, 58] ++ (p ++ 41 :: ([124, 40, 63, 58] ++ (q ++ [41]))) = S := ⟨_, rfl⟩
  have c0 : S[0]? = some 40 := by rw [← hS]; rfl
  have c1 : S[0 + 1]? = some 63 := by rw [← hS]; rfl
  have c2 : S[0 + 2]? = some 58 := by rw [← hS]; rfl
  have hlen : S.length = p.length + q.length + 9 := by rw [← hS]; simp; omega
  rw [hS] at E1 E2 gm hr
  simp only [List.length_cons, List.length_nil, List.length_append, Nat.zero_add] at E1 E2 gm
  obtain ⟨t1, st1, h1, l1, a1⟩ := plain_atom (k := 0) (f := S.length) hp1 E1 c0 c1 c2 (by omega) ⟨0, 0, 0, 0⟩ rfl
  have n1 : S[st1.at_]? = some 124 := by rw [a1]; have := gm 0; rw [show 0 + 3 + p.length + 1 = 1 + 1 + 1 + p.length + 1 + 0 by omega]; exact this
  have d0 : S[p.length + 5]? = some 40 := by have := gm 1; rw [show p.length + 5 = 1 + 1 + 1 + p.length + 1 + 1 by omega]; exact this
  have d1 : S[p.length + 5 + 1]? = some 63 := by have := gm 2; rw [show p.length + 5 + 1 = 1 + 1 + 1 + p.length + 1 + 2 by omega]; exact this
  have d2 : S[p.length + 5 + 2]? = some 58 := by have := gm 3; rw [show p.length + 5 + 2 = 1 + 1 + 1 + p.length + 1 + 3 by omega]; exact this
  obtain ⟨t2, st2, h2, l2, a2⟩ := plain_atom (k := p.length + 5) (f := S.length) hq1 (by rw [show p.length + 5 + 3 = 1 + 1 + 1 + (p.length + (1 + 1 + 1 + 1 + 1)) by omega]; exact E2) d0 d1 d2 (by omega) (st1.to (st1.at_ + 1)) (by rw [a1]; show 0 + 3 + p.length + 1 + 1 = _; omega)
  have n2 : S[st2.at_]? = none := by rw [List.getElem?_eq_none_iff, a2]; omega
  have hp1' := piece_plain h1 (fun c hc => by rw [n1] at hc; cases hc; decide)
  have hp2' := piece_plain h2 (fun c hc => by rw [n2] at hc; cases hc)
  obtain ⟨m, hm⟩ : ∃ m, S.length = m + 2 := ⟨S.length - 2, by omega⟩
  have r1 : pRow (pAll S S.length) S (S.length + 1) ⟨0, 0, 0, 0⟩ [] = .ok (.row [t1]) st1 := by
    rw [hm, pRow, show (⟨0, 0, 0, 0⟩ : PS).at_ = 0 from rfl, c0]
    simp only
    rw [if_neg (by decide), ← hm, hp1']
    simp only
    rw [hm, pRow, n1]
    simp only
    rw [if_pos (.inl trivial)]
    rfl
  have r2 : pRow (pAll S S.length) S (S.length + 1) (st1.to (st1.at_ + 1)) [] = .ok (.row [t2]) st2 := by
    rw [hm, pRow, show (st1.to (st1.at_ + 1)).at_ = p.length + 5 by rw [a1]; show 0 + 3 + p.length + 1 + 1 = _; omega, d0]
    simp only
    rw [if_neg (by decide), ← hm, hp2']
    simp only
    rw [hm, pRow, n2]
    rfl
  have hall : pAll S (S.length + 1) ⟨0, 0, 0, 0⟩ = .ok (.alts [.row [t1], .row [t2]]) st2 := by
    rw [pAll, r1]
    simp only
    rw [show S.length + 1 = (S.length - 1 + 1) + 1 by omega, pAlts, if_pos n1, show (S.length - 1 + 1) = S.length by omega, r2]
    simp only
    rw [show S.length = (S.length - 1) + 1 by omega, pAlts, if_neg (by rw [n2]; simp)]
    rfl
  rw [hall] at hr
  cases hr
  have hiff : z = true ↔ (x = true ∨ y = true) := by
    rw [ht2, hp2, hq2]
    rw [Tr.Fits, FitsAny, FitsAny, Tr.Fits, Tr.Fits, FitsRow, FitsRow]
    refine or_congr ?_ ?_
    · rw [l1.1 s 0 s.length]; exact ⟨fun ⟨k, h, e⟩ => by rw [FitsRow] at e; subst e; exact h, fun h => ⟨_, h, by rw [FitsRow]⟩⟩
    · rw [l2.1 s 0 s.length]; exact ⟨fun ⟨k, h, e⟩ => by rw [FitsRow] at e; subst e; exact h, fun h => ⟨_, h, by rw [FitsRow]⟩⟩
  clear hp hq hz
  revert hiff
  cases z <;> cases x <;> cases y <;> simp
theorem row_one {s : List UInt8} {t u : Tr} (l : Like t u) (i j : Nat) : (Tr.alts [.row [u]]).Fits s i j ↔ t.Fits s i j := by
  rw [Tr.Fits, FitsAny, Tr.Fits, FitsRow, l.1 s i j]
  exact ⟨fun ⟨k, h, e⟩ => by rw [FitsRow] at e; subst e; exact h, fun h => ⟨_, h, by rw [FitsRow]⟩⟩
/-- One piece that is the whole. -/
theorem all_piece {S : List UInt8} {c : UInt8} {u : Tr} {st1 : PS} (h0 : S[0]? = some c) (hc : ¬ (c = 124 ∨ c = 41)) (hp : pPiece (pAll S S.length) S ⟨0, 0, 0, 0⟩ = .ok u st1) (hn : S[st1.at_]? = none) (hl : 1 ≤ S.length) :
    pAll S (S.length + 1) ⟨0, 0, 0, 0⟩ = .ok (.alts [.row [u]]) st1 := by
  obtain ⟨m, hm⟩ : ∃ m, S.length = m + 1 := ⟨S.length - 1, by omega⟩
  have r1 : pRow (pAll S S.length) S (S.length + 1) ⟨0, 0, 0, 0⟩ [] = .ok (.row [u]) st1 := by
    rw [pRow, show (⟨0, 0, 0, 0⟩ : PS).at_ = 0 from rfl, h0]
    simp only
    rw [if_neg hc, hp]
    simp only
    rw [show pRow (pAll S S.length) S S.length = pRow (pAll S S.length) S (m + 1) by rw [← hm], pRow, hn]
    rfl
  rw [pAll, r1]
  simp only
  rw [pAlts, if_neg (by rw [hn]; simp)]
theorem all_piece_bad {S : List UInt8} {c : UInt8} {a : Nat} (h0 : S[0]? = some c) (hc : ¬ (c = 124 ∨ c = 41)) (hp : pPiece (pAll S S.length) S ⟨0, 0, 0, 0⟩ = .bad a) : pAll S (S.length + 1) ⟨0, 0, 0, 0⟩ = .bad a := by
  rw [pAll, pRow, show (⟨0, 0, 0, 0⟩ : PS).at_ = 0 from rfl, h0]
  simp only
  rw [if_neg hc, hp]
/-- The law of brackets that group. -/
theorem parts_group {p s : List UInt8} {x z : Bool} (hp : fitsRx p s = some x) (hz : fitsRx (40 :: (p ++ [41])) s = some z) : z = x := by
  obtain ⟨tp, gp, hp1, _, hp2⟩ := fits_of hp
  obtain ⟨t, g, ht1, _, ht2⟩ := fits_of hz
  obtain ⟨st, hr, _⟩ := read_of ht1
  have E1 := emb_mid [40] p []
  obtain ⟨S, hS⟩ : ∃ S, 40 :: (p ++ [41]) = S := ⟨_, rfl⟩
  have c0 : S[0]? = some 40 := by rw [← hS]; rfl
  have hlen : S.length = p.length + 2 := by rw [← hS]; simp
  have c1 : S[0 + 1]? ≠ some 63 := by
    rw [← hS]
    cases p with
    | nil => simp
    | cons b p' =>
      intro e
      obtain rfl : b = 63 := by simpa using e
      -- a pattern that begins with a question mark is none
      obtain ⟨st0, h1, _⟩ := read_of hp1
      rw [pAll, pRow] at h1
      simp only [List.getElem?_cons_zero] at h1
      rw [if_neg (by decide), pPiece, pAtom] at h1
      simp only [List.getElem?_cons_zero] at h1
      rw [if_pos (by decide)] at h1
      cases h1
  rw [show [40] ++ (p ++ 41 :: []) = S by rw [← hS]; rfl] at E1
  rw [hS] at hr
  obtain ⟨t1, st1, h1, l1, a1⟩ := group_atom (k := 0) (f := S.length) hp1 E1 c0 c1 (by omega) ⟨0, 0, 0, 0⟩ rfl
  have n1 : S[st1.at_]? = none := by rw [List.getElem?_eq_none_iff, a1]; omega
  rw [all_piece c0 (by decide) (piece_plain h1 (fun c hc => by rw [n1] at hc; cases hc)) n1 (by omega)] at hr
  cases hr
  have hiff : z = true ↔ x = true := by rw [ht2, hp2, row_one l1]
  clear hp hz
  revert hiff
  cases z <;> cases x <;> simp
/-- A count behind a pattern in brackets. -/
theorem count_piece {p s post : List UInt8} {x z : Bool} (hp : fitsRx p s = some x) {s' : List UInt8} (hz : fitsRx ([40, 63, 58] ++ (p ++ 41 :: post)) s' = some z) :
    ∃ tp t1 g1 st1 st2, Like tp t1 ∧ (x = true ↔ tp.Fits s 0 s.length) ∧ st1.at_ = p.length + 4 ∧ (∀ j, ([40, 63, 58] ++ (p ++ 41 :: post))[p.length + 4 + j]? = post[j]?) ∧
      ∀ S, S = [40, 63, 58] ++ (p ++ 41 :: post) → pAtom (pAll S S.length) S ⟨0, 0, 0, 0⟩ = .ok t1 st1 ∧ S[0]? = some 40 ∧ ∃ t, readRx S = .ok t g1 ∧ pAll S (S.length + 1) ⟨0, 0, 0, 0⟩ = .ok t st2 ∧ (z = true ↔ t.Fits s' 0 s'.length) := by
  obtain ⟨tp, gp, hp1, _, hp2⟩ := fits_of hp
  obtain ⟨t, g, ht1, _, ht2⟩ := fits_of hz
  obtain ⟨st, hr, _⟩ := read_of ht1
  have E1 := emb_mid [40, 63, 58] p post
  have gm := get_mid [40, 63, 58] p post
  obtain ⟨S, hS⟩ : ∃ S, [40, 63, 58] ++ (p ++ 41 :: post) = S := ⟨_, rfl⟩
  have c0 : S[0]? = some 40 := by rw [← hS]; rfl
  have c1 : S[0 + 1]? = some 63 := by rw [← hS]; rfl
  have c2 : S[0 + 2]? = some 58 := by rw [← hS]; rfl
  have hlen : S.length = p.length + 4 + post.length := by rw [← hS]; simp; omega
  rw [hS] at E1 hr gm ht1 ⊢
  obtain ⟨t1, st1, h1, l1, a1⟩ := plain_atom (k := 0) (f := S.length) hp1 E1 c0 c1 c2 (by omega) ⟨0, 0, 0, 0⟩ rfl
  refine ⟨tp, t1, g, st1, st, l1, hp2, by rw [a1]; omega, fun j => by have := gm j; rw [show p.length + 4 + j = [40, 63, 58].length + p.length + 1 + j by simp; omega]; exact this, fun S' hS' => ?_⟩
  subst hS'
  exact ⟨h1, c0, t, ht1, hr, ht2⟩
/-- The law of {1}. -/
theorem parts_one {p s : List UInt8} {x z : Bool} (hp : fitsRx p s = some x) (hz : fitsRx ([40, 63, 58] ++ (p ++ 41 :: [123, 49, 125])) s = some z) : z = x := by
  obtain ⟨tp, t1, g1, st1, st2, l1, hx, ha, hg, hS⟩ := count_piece hp hz
  obtain ⟨S, hSe⟩ : ∃ S, S = [40, 63, 58] ++ (p ++ 41 :: [123, 49, 125]) := ⟨_, rfl⟩
  obtain ⟨h1, c0, t, _, hr, ht⟩ := hS S hSe
  rw [← hSe] at hg
  have q0 : S[st1.at_]? = some 123 := by rw [ha]; exact hg 0
  have q1 : S[st1.at_ + 1]? = some 49 := by rw [ha]; exact hg 1
  have q2 : S[st1.at_ + 2]? = some 125 := by rw [ha]; exact hg 2
  have q3 : S[st1.at_ + 3]? = none := by rw [ha]; exact hg 3
  have hl := lt_of_some q2
  have hnum : number S (st1.at_ + 1) = .ok 1 (st1.at_ + 2) := by
    have : numGo S 4 (st1.at_ + 1) 0 = (1, st1.at_ + 2) := by
      rw [numGo, q1]
      simp only
      rw [if_pos (by decide), numGo, show st1.at_ + 1 + 1 = st1.at_ + 2 from rfl, q2]
      rfl
    unfold number
    rw [this, if_neg (by simp only; omega)]
  by_cases he : t1.empty = true
  · exfalso
    have : pPiece (pAll S S.length) S ⟨0, 0, 0, 0⟩ = .bad st1.at_ := by
      rw [pPiece, h1]
      simp only
      rw [q0]
      simp only
      rw [if_pos ⟨by decide, he⟩]
    rw [all_piece_bad c0 (by decide) this] at hr
    cases hr
  · have : pPiece (pAll S S.length) S ⟨0, 0, 0, 0⟩ = .ok (.rep t1 1 (some 1) false false) (st1.to (st1.at_ + 3)) := by
      rw [pPiece, h1]
      simp only
      rw [q0]
      simp only
      rw [if_neg (fun e => he e.2), if_neg (by decide), if_neg (by decide), if_neg (by decide), if_pos trivial, pCount, hnum]
      simp only
      rw [if_neg (by rw [q2]; decide), pBrace, if_pos q2, pLazy, show st1.at_ + 2 + 1 = st1.at_ + 3 from rfl, if_neg (by rw [q3]; simp)]
    rw [all_piece c0 (by decide) this q3 (by omega)] at hr
    cases hr
    have hiff : z = true ↔ x = true := by
      rw [ht, hx, row_one (Like.refl _), Tr.Fits, l1.1 s]
      simp only [Bool.false_eq_true, if_false]
      constructor
      · rintro ⟨n, ⟨h2, h3⟩, h4⟩
        have := h3 1 rfl
        obtain rfl : n = 1 := by omega
        obtain ⟨k, h5, rfl⟩ := h4
        exact h5
      · intro h
        exact ⟨1, ⟨Nat.le_refl _, fun m hm => by cases hm; decide⟩, _, h, rfl⟩
    clear hp hz
    revert hiff
    cases z <;> cases x <;> simp
/-- The law of a question mark: the empty text fits. -/
theorem parts_maybe {p s : List UInt8} {x z : Bool} (hp : fitsRx p s = some x) (hz : fitsRx ([40, 63, 58] ++ (p ++ 41 :: [63])) [] = some z) : z = true := by
  obtain ⟨tp, t1, g1, st1, st2, l1, hx, ha, hg, hS⟩ := count_piece hp hz
  obtain ⟨S, hSe⟩ : ∃ S, S = [40, 63, 58] ++ (p ++ 41 :: [63]) := ⟨_, rfl⟩
  obtain ⟨h1, c0, t, _, hr, ht⟩ := hS S hSe
  rw [← hSe] at hg
  have q0 : S[st1.at_]? = some 63 := by rw [ha]; exact hg 0
  have q1 : S[st1.at_ + 1]? = none := by rw [ha]; exact hg 1
  have hl := lt_of_some q0
  by_cases he : t1.empty = true
  · exfalso
    have : pPiece (pAll S S.length) S ⟨0, 0, 0, 0⟩ = .bad st1.at_ := by
      rw [pPiece, h1]
      simp only
      rw [q0]
      simp only
      rw [if_pos ⟨by decide, he⟩]
    rw [all_piece_bad c0 (by decide) this] at hr
    cases hr
  · have : pPiece (pAll S S.length) S ⟨0, 0, 0, 0⟩ = .ok (.rep t1 0 (some 1) false false) (st1.to (st1.at_ + 1)) := by
      rw [pPiece, h1]
      simp only
      rw [q0]
      simp only
      rw [if_neg (fun e => he e.2), if_neg (by decide), if_neg (by decide), if_pos trivial, pLazy, if_neg (by rw [q1]; simp)]
    rw [all_piece c0 (by decide) this q1 (by omega)] at hr
    cases hr
    rw [ht, row_one (Like.refl _), Tr.Fits]
    exact ⟨0, ⟨Nat.le_refl _, fun m hm => Nat.zero_le _⟩, rfl⟩
end Go.Proofs.YtamlnkmcbbeicaaDoor.RX
