/- The laws of chapter 08 in plain Lean: a word, a count. No program in sight. -/
import Derived.Test.YtdpakjkldkddcaaRx5
namespace Go.Proofs.Ytdpakjkldkddcaa.RX

/-- A sign: printable, no letter, no digit. -/
def signC (c : UInt8) : Bool := decide (33 ≤ c.toNat ∧ c.toNat ≤ 126) && !(decide (97 ≤ c.toNat ∧ c.toNat ≤ 122) || decide (65 ≤ c.toNat ∧ c.toNat ≤ 90) || decide (48 ≤ c.toNat ∧ c.toNat ≤ 57))
def escB (c : UInt8) : List UInt8 := if signC c then [92, c] else [c]
def escW (w : List UInt8) : List UInt8 := w.flatMap escB
theorem escB_head (c : UInt8) : ∃ b l, escB c = b :: l ∧ b ≠ 93 ∧ b ≠ 42 ∧ b ≠ 43 ∧ b ≠ 63 ∧ b ≠ 123 ∧ b ≠ 125 ∧ b ≠ 46 ∧ b ≠ 94 ∧ b ≠ 36 ∧ b ≠ 91 ∧ b ≠ 40 ∧ b ≠ 124 ∧ b ≠ 41 ∧ b ≠ 45 := by
  unfold escB
  by_cases h : signC c = true
  · rw [if_pos h]
    exact ⟨92, [c], rfl, by decide⟩
  · rw [if_neg h]
    refine ⟨c, [], rfl, ?_⟩
    refine ⟨?_, ?_, ?_, ?_, ?_, ?_, ?_, ?_, ?_, ?_, ?_, ?_, ?_, ?_⟩ <;> (rintro rfl; exact h (by decide))
theorem word_iff (d : UInt8) : wordL.contains d = true → (97 ≤ d.toNat ∧ d.toNat ≤ 122) ∨ (65 ≤ d.toNat ∧ d.toNat ≤ 90) ∨ (48 ≤ d.toNat ∧ d.toNat ≤ 57) ∨ d = 95 := by
  intro h
  have h1 : d ∈ wordL := by simpa using h
  have h2 : ∀ x ∈ wordL, (97 ≤ x.toNat ∧ x.toNat ≤ 122) ∨ (65 ≤ x.toNat ∧ x.toNat ≤ 90) ∨ (48 ≤ x.toNat ∧ x.toNat ≤ 57) ∨ x = 95 := by decide
  exact h2 d h1
theorem item_esc {S : List UInt8} {k : Nat} {c : UInt8} (h : ∀ j b, (escB c)[j]? = some b → S[k + j]? = some b) : item S k = .ok (only c) (some c) (k + (escB c).length) := by
  unfold item
  unfold escB at h ⊢
  by_cases hs : signC c = true
  · rw [if_pos hs] at h ⊢
    have h0 : S[k]? = some 92 := h 0 92 rfl
    have h1 : S[k + 1]? = some c := h 1 c rfl
    unfold signC at hs
    simp only [Bool.and_eq_true, Bool.not_eq_true', Bool.or_eq_false_iff, decide_eq_true_eq, decide_eq_false_iff_not] at hs
    have ne : ∀ x : UInt8, (97 ≤ x.toNat ∧ x.toNat ≤ 122) ∨ (65 ≤ x.toNat ∧ x.toNat ≤ 90) → c ≠ x := by
      rintro x hx rfl
      rcases hx with hx | hx
      · exact hs.2.1.1 hx
      · exact hs.2.1.2 hx
    rw [h0]
    simp only
    rw [if_neg (by decide), h1]
    simp only
    rw [if_neg (ne 110 (by decide)), if_neg (ne 116 (by decide)), if_neg (ne 114 (by decide)), if_neg (fun q => q.elim (ne 100 (by decide)) (ne 68 (by decide))), if_neg (fun q => q.elim (ne 119 (by decide)) (ne 87 (by decide))), if_neg (fun q => q.elim (ne 115 (by decide)) (ne 83 (by decide))), if_neg]
    · rfl
    · rintro (q | q | ⟨q1, q2⟩)
      · omega
      · omega
      · rcases word_iff c q2 with e | e | e | e
        · exact hs.2.1.1 e
        · exact hs.2.1.2 e
        · exact hs.2.2 e
        · exact q1 e
  · rw [if_neg hs] at h ⊢
    have h0 : S[k]? = some c := h 0 c rfl
    rw [h0]
    simp only
    rw [if_pos (by rintro rfl; exact hs (by decide))]
    rfl
theorem atom_esc {A : PS → Pr Tr} {S : List UInt8} {c : UInt8} {st : PS} (h : ∀ j b, (escB c)[j]? = some b → S[st.at_ + j]? = some b) : pAtom A S st = .ok (.bytes (only c)) (st.to (st.at_ + (escB c).length)) := by
  obtain ⟨b, l, hb, h1, h2, h3, h4, h5, h6, h7, h8, h9, h10, h11, _⟩ := escB_head c
  have h0 : S[st.at_]? = some b := h 0 b (by rw [hb]; rfl)
  rw [pAtom, h0]
  simp only
  rw [if_neg (fun q => by rcases q with e | e | e | e | e | e <;> contradiction), if_neg h7, if_neg h8, if_neg h9, if_neg h10, if_neg h11, item_esc h]
theorem row_esc {A : PS → Pr Tr} : ∀ (w pre : List UInt8) (f : Nat) (st : PS) (acc : List Tr), st.at_ = pre.length → w.length + 1 ≤ f →
    pRow A (pre ++ escW w) f st acc = .ok (.row (acc ++ w.map fun c => .bytes (only c))) (st.to (pre ++ escW w).length)
  | [], pre, 0, st, acc, _, hf => by simp at hf
  | [], pre, f + 1, st, acc, hst, _ => by
    rw [pRow, hst, List.getElem?_eq_none (by simp [escW])]
    simp only [List.map_nil, List.append_nil]
    rw [show (pre ++ escW []).length = st.at_ by rw [hst]; simp [escW]]
    rfl
  | c :: w, pre, 0, st, acc, _, hf => by simp at hf
  | c :: w, pre, f + 1, st, acc, hst, hf => by
    obtain ⟨b, l, hb, h1, h2, h3, h4, h5, h6, h7, h8, h9, h10, h11, h12, h13, _⟩ := escB_head c
    have he : pre ++ escW (c :: w) = (pre ++ escB c) ++ escW w := by simp [escW]
    have hat : ∀ j x, (escB c)[j]? = some x → (pre ++ escW (c :: w))[st.at_ + j]? = some x := by
      intro j x hx
      rw [hst, he, List.append_assoc, List.getElem?_append_right (by omega), Nat.add_sub_cancel_left, List.getElem?_append_left (List.getElem?_eq_some_iff.1 hx).1, hx]
    have h0 : (pre ++ escW (c :: w))[st.at_]? = some b := hat 0 b (by rw [hb]; rfl)
    have hp : pPiece A (pre ++ escW (c :: w)) st = .ok (.bytes (only c)) (st.to (st.at_ + (escB c).length)) := by
      refine piece_plain (atom_esc hat) fun x hx => ?_
      change (pre ++ escW (c :: w))[st.at_ + (escB c).length]? = some x at hx
      rw [hst, he, List.getElem?_append_right (by simp), List.length_append, Nat.sub_self] at hx
      cases w with
      | nil => simp [escW] at hx
      | cons c' w' =>
        obtain ⟨b', l', hb', g1, g2, g3, g4, g5, _⟩ := escB_head c'
        have : (escW (c' :: w'))[0]? = some b' := by
          rw [show escW (c' :: w') = escB c' ++ escW w' by simp [escW], hb']; rfl
        rw [this] at hx
        cases hx
        exact ⟨g2, g3, g4, g5⟩
    rw [pRow, h0]
    simp only
    rw [if_neg (fun q => q.elim h12 h13), hp]
    simp only
    rw [he, row_esc w (pre ++ escB c) f _ _ (by show st.at_ + _ = _; rw [hst, List.length_append]) (by simp at hf; omega)]
    simp [PS.to]
theorem fitsRow_word {s : List UInt8} : ∀ (w : List UInt8) (i j : Nat), i ≤ s.length → (FitsRow s (w.map fun c => .bytes (only c)) i j ↔ ∃ r, s.drop i = w ++ r ∧ j = i + w.length)
  | [], i, j, hi => by
    rw [List.map_nil, FitsRow]
    exact ⟨fun h => ⟨_, rfl, by simp [h]⟩, fun ⟨_, _, h⟩ => by simpa using h.symm⟩
  | c :: w, i, j, hi => by
    rw [List.map_cons, FitsRow]
    constructor
    · rintro ⟨k, h1, h2⟩
      rw [Tr.Fits] at h1
      obtain ⟨b, hb, hbc, rfl⟩ := h1
      have hl := lt_of_some hb
      obtain ⟨r, hr, rfl⟩ := (fitsRow_word w (i + 1) j hl).1 h2
      obtain ⟨_, e⟩ := List.getElem?_eq_some_iff.1 hb
      have : b = c := by
        unfold only at hbc
        exact UInt8.toNat_inj.1 (of_decide_eq_true hbc)
      refine ⟨r, ?_, by simp; omega⟩
      rw [List.drop_eq_getElem_cons hl, e, hr, this]
      rfl
    · rintro ⟨r, hr, rfl⟩
      have hl : i < s.length := by
        have := congrArg List.length hr
        simp at this
        omega
      rw [List.drop_eq_getElem_cons hl] at hr
      injection hr with h1 h2
      refine ⟨i + 1, ?_, (fitsRow_word w (i + 1) _ hl).2 ⟨r, h2, by simp; omega⟩⟩
      rw [Tr.Fits]
      exact ⟨c, by rw [List.getElem?_eq_getElem hl, h1], by unfold only; simp, rfl⟩
theorem sizes_word (w : List UInt8) : sizes (w.map fun c => Tr.bytes (only c)) = w.length := by
  induction w with
  | nil => rfl
  | cons c w ih => rw [List.map_cons, sizes, ih, Tr.size, List.length_cons]; omega
theorem escW_length (w : List UInt8) : w.length ≤ (escW w).length ∧ (escW w).length ≤ 2 * w.length := by
  induction w with
  | nil => exact ⟨Nat.le_refl _, Nat.le_refl _⟩
  | cons c w ih =>
    rw [show escW (c :: w) = escB c ++ escW w by simp [escW], List.length_append, List.length_cons]
    have : 1 ≤ (escB c).length ∧ (escB c).length ≤ 2 := by unfold escB; split <;> simp
    omega
theorem read_word (w : List UInt8) (hw : w.length ≤ 200) : readRx (escW w) = .ok (.alts [.row (w.map fun c => .bytes (only c))]) 0 := by
  have hl := escW_length w
  have hr : ∀ A, pRow A (escW w) ((escW w).length + 1) ⟨0, 0, 0, 0⟩ [] = .ok (.row (w.map fun c => .bytes (only c))) (PS.to ⟨0, 0, 0, 0⟩ (escW w).length) := by
    intro A
    have := row_esc (A := A) w [] ((escW w).length + 1) ⟨0, 0, 0, 0⟩ [] rfl (by omega)
    simpa using this
  have ha : pAll (escW w) ((escW w).length + 1) ⟨0, 0, 0, 0⟩ = .ok (.alts [.row (w.map fun c => .bytes (only c))]) (PS.to ⟨0, 0, 0, 0⟩ (escW w).length) := by
    rw [pAll, hr]
    simp only
    rw [pAlts, if_neg]
    show ¬ (escW w)[(escW w).length]? = some 124
    rw [List.getElem?_eq_none (Nat.le_refl _)]
    simp
  unfold readRx
  rw [ha]
  simp only
  rw [if_neg (by show ¬ (escW w).length < _; omega), if_neg]
  · rfl
  · rw [Tr.size, sizes, sizes, Tr.size, sizes_word]
    show ¬ (100 < 0 ∨ _)
    simp
    omega
/-- The law of a word. -/
theorem law_word (w s : List UInt8) (hw : w.length ≤ 200) : fitsRx (escW w) s = some (decide (s = w)) := by
  have hl := escW_length w
  obtain ⟨x, hx, hf⟩ := of_fits (read_word w hw) (by omega) s
  rw [hx]
  have : x = true ↔ s = w := by
    rw [hf, Tr.Fits, FitsAny, Tr.Fits, fitsRow_word w 0 _ (Nat.zero_le _)]
    constructor
    · rintro ⟨r, h1, h2⟩
      rw [List.drop_zero] at h1
      have := congrArg List.length h1
      rw [List.length_append] at this
      have hr : r = [] := List.length_eq_zero_iff.1 (by omega)
      rw [h1, hr, List.append_nil]
    · rintro rfl
      exact ⟨[], by simp, by simp⟩
  congr 1
  by_cases e : s = w
  · rw [decide_eq_true e]; exact this.2 e
  · rw [decide_eq_false e]; exact Bool.eq_false_iff.2 fun h => e (this.1 h)
/-- A number, base ten, of one digit or two. -/
def decN (n : Nat) : List UInt8 := if n < 10 then [UInt8.ofNat (48 + n)] else [UInt8.ofNat (48 + n / 10), UInt8.ofNat (48 + n % 10)]
theorem num_dec {S : List UInt8} {k n : Nat} {c : UInt8} (hn : n < 30) (h : ∀ j b, (decN n)[j]? = some b → S[k + j]? = some b) (hc : S[k + (decN n).length]? = some c) (hd : ¬ (48 ≤ c.toNat ∧ c.toNat ≤ 57)) : number S k = .ok n (k + (decN n).length) := by
  have hg : numGo S 4 k 0 = (n, k + (decN n).length) := by
    unfold decN at h hc ⊢
    by_cases h1 : n < 10
    · rw [if_pos h1] at h hc ⊢
      have h0 : S[k]? = some (UInt8.ofNat (48 + n)) := h 0 _ rfl
      have e : (UInt8.ofNat (48 + n)).toNat = 48 + n := by rw [UInt8.toNat_ofNat']; omega
      simp only [List.length_singleton] at hc ⊢
      rw [numGo, h0]
      simp only
      rw [if_pos (by rw [e]; omega), e, numGo, hc]
      simp only
      rw [if_neg hd]
      simp
    · rw [if_neg h1] at h hc ⊢
      have h0 : S[k]? = some (UInt8.ofNat (48 + n / 10)) := h 0 _ rfl
      have h0' : S[k + 1]? = some (UInt8.ofNat (48 + n % 10)) := h 1 _ rfl
      have e : (UInt8.ofNat (48 + n / 10)).toNat = 48 + n / 10 := by rw [UInt8.toNat_ofNat']; omega
      have e' : (UInt8.ofNat (48 + n % 10)).toNat = 48 + n % 10 := by rw [UInt8.toNat_ofNat']; omega
      simp only [List.length_cons, List.length_nil] at hc ⊢
      rw [numGo, h0]
      simp only
      rw [if_pos (by rw [e]; omega), e, numGo, h0']
      simp only
      rw [if_pos (by rw [e']; omega), e', numGo, show k + 1 + 1 = k + (0 + 1 + 1) from rfl, hc]
      simp only
      rw [if_neg hd]
      simp
      omega
  have hp : 1 ≤ (decN n).length := by unfold decN; split <;> simp
  unfold number
  rw [hg, if_neg (by simp only; omega)]
/-- A class of one byte. -/
theorem cls_one {S : List UInt8} {k : Nat} {c : UInt8} (h : ∀ j b, (escB c)[j]? = some b → S[k + j]? = some b) (he : S[k + (escB c).length]? = some 93) : ∃ p, cls S k = .ok p (k + (escB c).length + 1) ∧ ∀ i, p i = only c i := by
  obtain ⟨b, l, hb, h1, h2, h3, h4, h5, h6, h7, h8, h9, h10, h11, h12, h13, h14⟩ := escB_head c
  have h0 : S[k]? = some b := h 0 b (by rw [hb]; rfl)
  have hl := lt_of_some he
  obtain ⟨m, hm⟩ : ∃ m, S.length = m + 1 := ⟨S.length - 1, by omega⟩
  have hd : dash S (k + (escB c).length) = false := by unfold dash; rw [he]; rfl
  have hg : classGo S (S.length + 1) true k (fun _ => false) = .ok (fun i => false || only c i) (k + (escB c).length + 1) := by
    rw [classGo, if_neg (fun q => by cases q.1), if_neg (fun q => by cases q.1), if_neg, item_esc h]
    · simp only
      rw [hd, if_neg (by decide), hm, classGo, if_pos ⟨rfl, he⟩]
    · rw [h0]
      rintro (q | q | q)
      · cases q
      · exact h1 (Option.some.inj q.2)
      · cases q.1
  unfold cls
  rw [h0, beq_eq_false_iff_ne.2 (fun e => h8 (Option.some.inj e))]
  simp only [Bool.false_eq_true, if_false]
  rw [hg]
  exact ⟨_, rfl, fun i => by simp⟩
/-- A class of one byte, with a count. -/
theorem times_read {S : List UInt8} {c : UInt8} {post : List UInt8} (hS : S = 91 :: (escB c ++ 93 :: 123 :: post)) :
    S.length = (escB c).length + 3 + post.length ∧ (∀ j, S[(escB c).length + 3 + j]? = post[j]?) ∧ ∃ p, (∀ i, p i = only c i) ∧ ∀ (most : Option Nat) (least : Nat), (∀ m, most = some m → least ≤ m ∧ m < 30) → least < 30 →
      pCount S (.bytes p) (PS.to ⟨0, 0, 0, 0⟩ ((escB c).length + 2)) = .ok (.rep (.bytes p) least most false false) (PS.to ⟨0, 0, 0, 0⟩ S.length) → readRx S = .ok (.alts [.row [.rep (.bytes p) least most false false]]) 0 := by
  have hlen : S.length = (escB c).length + 3 + post.length := by rw [hS]; simp; omega
  have hat : ∀ j b, (escB c)[j]? = some b → S[1 + j]? = some b := by
    intro j b hb
    rw [hS, Nat.add_comm, List.getElem?_cons_succ, List.getElem?_append_left (List.getElem?_eq_some_iff.1 hb).1, hb]
  have h93 : S[1 + (escB c).length]? = some 93 := by rw [hS, Nat.add_comm, List.getElem?_cons_succ, List.getElem?_append_right (Nat.le_refl _), Nat.sub_self]; rfl
  have h123 : S[(escB c).length + 2]? = some 123 := by rw [hS, List.getElem?_cons_succ, List.getElem?_append_right (by omega), show (escB c).length + 1 - (escB c).length = 1 by omega]; rfl
  have hpost : ∀ j, S[(escB c).length + 3 + j]? = post[j]? := by
    intro j
    rw [hS, show (escB c).length + 3 + j = ((escB c).length + (j + 2)) + 1 by omega, List.getElem?_cons_succ, List.getElem?_append_right (by omega), Nat.add_sub_cancel_left]
    rfl
  have h0 : S[0]? = some 91 := by rw [hS]; rfl
  obtain ⟨p, hp, hpo⟩ := cls_one hat h93
  refine ⟨hlen, hpost, p, hpo, fun most least hm hl hc => ?_⟩
  have ha : pAtom (pAll S S.length) S ⟨0, 0, 0, 0⟩ = .ok (.bytes p) (PS.to ⟨0, 0, 0, 0⟩ ((escB c).length + 2)) := by
    rw [pAtom, show (⟨0, 0, 0, 0⟩ : PS).at_ = 0 from rfl, h0]
    simp only
    rw [if_neg (by decide), if_neg (by decide), if_neg (by decide), if_neg (by decide), if_pos trivial, show 0 + 1 = 1 from rfl, hp, show 1 + (escB c).length + 1 = (escB c).length + 2 by omega]
  have hpc : pPiece (pAll S S.length) S ⟨0, 0, 0, 0⟩ = .ok (.rep (.bytes p) least most false false) (PS.to ⟨0, 0, 0, 0⟩ S.length) := by
    rw [pPiece, ha]
    simp only
    rw [show (PS.to ⟨0, 0, 0, 0⟩ ((escB c).length + 2)).at_ = (escB c).length + 2 from rfl, h123]
    simp only
    rw [if_neg (fun q => by rw [Tr.empty] at q; cases q.2), if_neg (by decide), if_neg (by decide), if_neg (by decide), if_pos trivial, hc]
  have hall := all_piece (S := S) h0 (by decide) hpc (by show S[S.length]? = none; rw [List.getElem?_eq_none_iff]; exact Nat.le_refl _) (by omega)
  unfold readRx
  rw [hall]
  simp only
  rw [if_neg (by show ¬ S.length < S.length; omega), if_neg]
  · rfl
  · show ¬ (100 < 0 ∨ _)
    cases most with
    | none => simp [Tr.size, sizes]; omega
    | some m => have := hm m rfl; simp [Tr.size, sizes]; omega
theorem pow_bytes {p : Nat → Bool} {c : UInt8} {many : Nat} (hp : ∀ i, p i = only c i) : ∀ (n i j : Nat), i ≤ many → (Pow ((Tr.bytes p).Fits (List.replicate many c)) n i j ↔ j = i + n ∧ j ≤ many)
  | 0, i, j, hi => by
    rw [Pow]
    omega
  | n + 1, i, j, hi => by
    rw [Pow]
    constructor
    · rintro ⟨k, h1, h2⟩
      rw [Tr.Fits] at h1
      obtain ⟨b, hb, _, rfl⟩ := h1
      have hl := lt_of_some hb
      rw [List.length_replicate] at hl
      have := (pow_bytes hp n (i + 1) j hl).1 h2
      omega
    · rintro ⟨rfl, h⟩
      have hl : i < many := by omega
      refine ⟨i + 1, ?_, (pow_bytes hp n (i + 1) _ hl).2 ⟨by omega, h⟩⟩
      rw [Tr.Fits]
      exact ⟨c, by rw [List.getElem?_replicate, if_pos hl], by rw [hp]; unfold only; simp, rfl⟩
theorem times_fits {p : Nat → Bool} {c : UInt8} {many least : Nat} {most : Option Nat} (hp : ∀ i, p i = only c i) :
    (Tr.alts [.row [.rep (.bytes p) least most false false]]).Fits (List.replicate many c) 0 (List.replicate many c).length ↔ least ≤ many ∧ ∀ m, most = some m → many ≤ max least m := by
  rw [row_one (Like.refl _), Tr.Fits, List.length_replicate]
  simp only [Bool.false_eq_true, if_false]
  constructor
  · rintro ⟨n, h1, h2⟩
    have := (pow_bytes hp n 0 many (Nat.zero_le _)).1 h2
    obtain rfl : n = many := by omega
    exact h1
  · intro h
    exact ⟨many, h, (pow_bytes hp many 0 many (Nat.zero_le _)).2 ⟨by omega, Nat.le_refl _⟩⟩
theorem some_iff {S s : List UInt8} {t : Tr} {g : Nat} {P : Prop} [Decidable P] (hr : readRx S = .ok t g) (hl : S.length ≤ 500) (h : t.Fits s 0 s.length ↔ P) : fitsRx S s = some (decide P) := by
  obtain ⟨x, hx, hf⟩ := of_fits hr hl s
  rw [hx]
  congr 1
  by_cases e : P
  · rw [decide_eq_true e]; exact hf.2 (h.2 e)
  · rw [decide_eq_false e]; exact Bool.eq_false_iff.2 fun q => e (h.1 (hf.1 q))
theorem escB_le (c : UInt8) : 1 ≤ (escB c).length ∧ (escB c).length ≤ 2 := by unfold escB; split <;> simp
theorem decN_le (n : Nat) : 1 ≤ (decN n).length ∧ (decN n).length ≤ 2 := by unfold decN; split <;> simp
theorem dec_at {S l post : List UInt8} {k : Nat} (h : ∀ j, S[k + j]? = (l ++ post)[j]?) : (∀ j b, l[j]? = some b → S[k + j]? = some b) ∧ ∀ j, S[k + l.length + j]? = post[j]? := by
  refine ⟨fun j b hb => by rw [h j, List.getElem?_append_left (List.getElem?_eq_some_iff.1 hb).1, hb], fun j => ?_⟩
  rw [Nat.add_assoc, h, List.getElem?_append_right (by omega), Nat.add_sub_cancel_left]
/-- {n} -/
theorem law_times1 (c : UInt8) (least many : Nat) (hl : least < 30) : fitsRx (91 :: (escB c ++ 93 :: 123 :: (decN least ++ [125]))) (List.replicate many c) = some (decide (many = least)) := by
  obtain ⟨hlen, hpost, p, hp, hr⟩ := times_read (c := c) (post := decN least ++ [125]) rfl
  have hb := escB_le c
  have hd := decN_le least
  generalize 91 :: (escB c ++ 93 :: 123 :: (decN least ++ [125])) = S at hlen hpost hr ⊢
  obtain ⟨d1, d2⟩ := dec_at hpost
  have q0 := d2 0
  have hn := num_dec (c := 125) hl d1 q0 (by decide)
  rw [List.length_append, List.length_singleton] at hlen
  have := hr (some least) least (fun m hm => by cases hm; omega) hl (by
    rw [pCount, show (PS.to ⟨0, 0, 0, 0⟩ ((escB c).length + 2)).at_ + 1 = (escB c).length + 3 from rfl, hn]
    simp only
    rw [if_neg (by rw [show S[(escB c).length + 3 + (decN least).length]? = some 125 from q0]; decide), pBrace, if_pos (show S[(escB c).length + 3 + (decN least).length]? = some 125 from q0), pLazy, if_neg (by rw [List.getElem?_eq_none (by omega)]; simp)]
    rw [show (escB c).length + 3 + (decN least).length + 1 = S.length by omega]
    rfl)
  refine some_iff this (by omega) ((times_fits hp).trans ⟨fun h => ?_, fun h => ⟨by omega, fun m hm => by cases hm; omega⟩⟩)
  have := h.2 least rfl
  omega
/-- {n,} -/
theorem law_times2 (c : UInt8) (least many : Nat) (hl : least < 30) : fitsRx (91 :: (escB c ++ 93 :: 123 :: (decN least ++ [44, 125]))) (List.replicate many c) = some (decide (least ≤ many)) := by
  obtain ⟨hlen, hpost, p, hp, hr⟩ := times_read (c := c) (post := decN least ++ [44, 125]) rfl
  have hb := escB_le c
  have hd := decN_le least
  generalize 91 :: (escB c ++ 93 :: 123 :: (decN least ++ [44, 125])) = S at hlen hpost hr ⊢
  obtain ⟨d1, d2⟩ := dec_at hpost
  have q0 : S[(escB c).length + 3 + (decN least).length]? = some 44 := d2 0
  have q1 : S[(escB c).length + 3 + (decN least).length + 1]? = some 125 := d2 1
  have hn := num_dec (c := 44) hl d1 q0 (by decide)
  rw [List.length_append] at hlen
  simp only [List.length_cons, List.length_nil] at hlen
  have := hr none least (fun m hm => by cases hm) hl (by
    rw [pCount, show (PS.to ⟨0, 0, 0, 0⟩ ((escB c).length + 2)).at_ + 1 = (escB c).length + 3 from rfl, hn]
    simp only
    rw [if_pos q0, if_pos q1, pBrace, if_pos q1, pLazy, if_neg (by rw [List.getElem?_eq_none (by omega)]; simp)]
    rw [show (escB c).length + 3 + (decN least).length + 1 + 1 = S.length by omega]
    rfl)
  exact some_iff this (by omega) ((times_fits hp).trans ⟨fun h => h.1, fun h => ⟨h, fun m hm => by cases hm⟩⟩)
/-- {n,m} -/
theorem law_times3 (c : UInt8) (least most many : Nat) (hl : least < 30) (hm : most < 30) (hle : least ≤ most) : fitsRx (91 :: (escB c ++ 93 :: 123 :: (decN least ++ 44 :: (decN most ++ [125])))) (List.replicate many c) = some (decide (least ≤ many ∧ many ≤ most)) := by
  obtain ⟨hlen, hpost, p, hp, hr⟩ := times_read (c := c) (post := decN least ++ 44 :: (decN most ++ [125])) rfl
  have hb := escB_le c
  have hd := decN_le least
  have hd2 := decN_le most
  generalize 91 :: (escB c ++ 93 :: 123 :: (decN least ++ 44 :: (decN most ++ [125]))) = S at hlen hpost hr ⊢
  obtain ⟨d1, d2⟩ := dec_at hpost
  have q0 : S[(escB c).length + 3 + (decN least).length]? = some 44 := d2 0
  have hn := num_dec (c := 44) hl d1 q0 (by decide)
  have hpost2 : ∀ j, S[(escB c).length + 3 + (decN least).length + 1 + j]? = (decN most ++ [125])[j]? := fun j => by
    have := d2 (j + 1)
    rw [List.getElem?_cons_succ] at this
    rw [← this]
    congr 1
    omega
  obtain ⟨d3, d4⟩ := dec_at hpost2
  have q1 : S[(escB c).length + 3 + (decN least).length + 1 + (decN most).length]? = some 125 := d4 0
  have hn2 := num_dec (c := 125) hm d3 q1 (by decide)
  rw [List.length_append, List.length_cons, List.length_append, List.length_singleton] at hlen
  have hne : S[(escB c).length + 3 + (decN least).length + 1]? ≠ some 125 := by
    have := hpost2 0
    rw [Nat.add_zero] at this
    rw [this, List.getElem?_append_left (by omega)]
    unfold decN
    split
    · intro e
      have e1 : UInt8.ofNat (48 + most) = 125 := by simpa using e
      have := congrArg UInt8.toNat e1
      rw [UInt8.toNat_ofNat'] at this
      have h125 : (125 : UInt8).toNat = 125 := rfl
      omega
    · intro e
      have e1 : UInt8.ofNat (48 + most / 10) = 125 := by simpa using e
      have := congrArg UInt8.toNat e1
      rw [UInt8.toNat_ofNat'] at this
      have h125 : (125 : UInt8).toNat = 125 := rfl
      omega
  have := hr (some most) least (fun m e => by cases e; omega) hl (by
    rw [pCount, show (PS.to ⟨0, 0, 0, 0⟩ ((escB c).length + 2)).at_ + 1 = (escB c).length + 3 from rfl, hn]
    simp only
    rw [if_pos q0, if_neg hne, pMost, hn2]
    simp only
    rw [if_neg (by omega), pBrace, if_pos q1, pLazy, if_neg (by rw [List.getElem?_eq_none (by omega)]; simp)]
    rw [show (escB c).length + 3 + (decN least).length + 1 + (decN most).length + 1 = S.length by omega]
    rfl)
  refine some_iff this (by omega) ((times_fits hp).trans ⟨fun h => ⟨h.1, ?_⟩, fun h => ⟨h.1, fun m e => by cases e; omega⟩⟩)
  have := h.2 most rfl
  omega
end Go.Proofs.Ytdpakjkldkddcaa.RX
