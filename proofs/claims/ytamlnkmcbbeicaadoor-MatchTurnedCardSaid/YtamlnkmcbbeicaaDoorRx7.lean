/- Patterns: the groups' numbers of a tree that was read are at most as many as there are; so the machine's marks lie within. No program in sight. -/
import Derived.Test.YtamlnkmcbbeicaaDoorG03
namespace Go.Proofs.YtamlnkmcbbeicaaDoor.RX

mutual
/-- No group's number is above g. -/
def Tr.GLe (g : Nat) : Tr → Prop
  | .bytes _ => True
  | .edge _ => True
  | .group n t => n ≤ g ∧ t.GLe g
  | .row l => GLeL g l
  | .alts l => GLeL g l
  | .rep t _ _ _ _ => t.GLe g
def GLeL (g : Nat) : List Tr → Prop
  | [] => True
  | t :: l => t.GLe g ∧ GLeL g l
end
mutual
theorem Tr.GLe.mono {g g' : Nat} (hg : g ≤ g') : ∀ {t : Tr}, t.GLe g → t.GLe g'
  | .bytes _, _ => by rw [Tr.GLe]; trivial
  | .edge _, _ => by rw [Tr.GLe]; trivial
  | .group n t, h => by
    rw [Tr.GLe] at h ⊢
    exact ⟨Nat.le_trans h.1 hg, Tr.GLe.mono hg h.2⟩
  | .row l, h => by rw [Tr.GLe] at h ⊢; exact GLeL.mono hg h
  | .alts l, h => by rw [Tr.GLe] at h ⊢; exact GLeL.mono hg h
  | .rep t _ _ _ _, h => by rw [Tr.GLe] at h ⊢; exact Tr.GLe.mono hg h
theorem GLeL.mono {g g' : Nat} (hg : g ≤ g') : ∀ {l : List Tr}, GLeL g l → GLeL g' l
  | [], _ => by rw [GLeL]; trivial
  | t :: l, h => by
    rw [GLeL] at h ⊢
    exact ⟨Tr.GLe.mono hg h.1, GLeL.mono hg h.2⟩
end
theorem GLeL.snoc {g : Nat} {t : Tr} : ∀ {l : List Tr}, GLeL g l → t.GLe g → GLeL g (l ++ [t])
  | [], _, h => by simp only [List.nil_append, GLeL]; exact ⟨h, trivial⟩
  | u :: l, hl, h => by
    rw [GLeL] at hl
    rw [List.cons_append, GLeL]
    exact ⟨hl.1, GLeL.snoc hl.2 h⟩
/-- What is read from st on has groups counted on from there. -/
def GOk (g : Nat) (r : Pr Tr) : Prop := ∀ t st, r = .ok t st → g ≤ st.groups ∧ t.GLe st.groups
theorem GOk.mono {g g' : Nat} {r : Pr Tr} (h : GOk g' r) (hg : g ≤ g') : GOk g r := fun t st e => ⟨Nat.le_trans hg (h t st e).1, (h t st e).2⟩
theorem GOk.bad (g a : Nat) : GOk g (.bad a) := fun _ _ e => by cases e
theorem GOk.ok {g : Nat} {t : Tr} {st : PS} (h : g ≤ st.groups) (ht : t.GLe st.groups) : GOk g (.ok t st) := fun _ _ e => by cases e; exact ⟨h, ht⟩
section
variable {A : PS → Pr Tr} {s : List UInt8}
theorem gok_close {r : Pr Tr} {g n : Nat} (h : GOk g r) (hn : n ≤ g) : GOk g (pClose s r n) := by
  unfold pClose
  cases r with
  | bad a => exact GOk.bad _ _
  | ok t st =>
    obtain ⟨h1, h2⟩ := h t st rfl
    simp only
    split
    · refine GOk.ok h1 ?_
      split
      · rw [Tr.GLe]; exact ⟨Nat.le_trans hn h1, h2⟩
      · exact h2
    · exact GOk.bad _ _
theorem gok_paren (hA : ∀ st, GOk st.groups (A st)) (st : PS) : GOk st.groups (pParen A s st) := by
  unfold pParen
  split
  · split
    · exact gok_close (hA _) (Nat.zero_le _)
    · exact GOk.bad _ _
  · exact (gok_close (hA _) (Nat.le_refl _)).mono (Nat.le_succ _)
theorem gle_bytes (g : Nat) (p : Nat → Bool) : (Tr.bytes p).GLe g := by rw [Tr.GLe]; trivial
theorem gle_edge (g : Nat) (e : Bool) : (Tr.edge e).GLe g := by rw [Tr.GLe]; trivial
theorem gok_atom (hA : ∀ st, GOk st.groups (A st)) (st : PS) : GOk st.groups (pAtom A s st) := by
  unfold pAtom
  split
  · exact GOk.bad _ _
  · split
    · exact GOk.bad _ _
    · split
      · exact GOk.ok (Nat.le_refl _) (gle_bytes _ _)
      · split
        · exact GOk.ok (Nat.le_refl _) (gle_edge _ _)
        · split
          · exact GOk.ok (Nat.le_refl _) (gle_edge _ _)
          · split
            · split
              · exact GOk.bad _ _
              · exact GOk.ok (Nat.le_refl _) (gle_bytes _ _)
            · split
              · exact gok_paren hA (st.to (st.at_ + 1))
              · split
                · exact GOk.bad _ _
                · exact GOk.ok (Nat.le_refl _) (gle_bytes _ _)
theorem gok_lazy {t : Tr} {st : PS} (h : t.GLe st.groups) (least : Nat) (most : Option Nat) (plus : Bool) (k : Nat) : GOk st.groups (pLazy s t least most plus st k) := by
  unfold pLazy
  split
  · exact GOk.ok (Nat.le_refl _) (by rw [Tr.GLe]; exact h)
  · exact GOk.ok (Nat.le_refl _) (by rw [Tr.GLe]; exact h)
theorem gok_brace {t : Tr} {st : PS} (h : t.GLe st.groups) (least : Nat) (most : Option Nat) (k : Nat) : GOk st.groups (pBrace s t least most st k) := by
  unfold pBrace
  split
  · exact gok_lazy h _ _ _ _
  · exact GOk.bad _ _
theorem gok_most {t : Tr} {st : PS} (h : t.GLe st.groups) (least : Nat) (k : Nat) : GOk st.groups (pMost s t least st k) := by
  unfold pMost
  split
  · exact GOk.bad _ _
  · split
    · exact GOk.bad _ _
    · exact gok_brace h _ _ _
theorem gok_count {t : Tr} {st : PS} (h : t.GLe st.groups) : GOk st.groups (pCount s t st) := by
  unfold pCount
  split
  · exact GOk.bad _ _
  · split
    · split
      · exact gok_brace h _ _ _
      · exact gok_most h _ _
    · exact gok_brace h _ _ _
theorem gok_piece (hA : ∀ st, GOk st.groups (A st)) (st : PS) : GOk st.groups (pPiece A s st) := by
  unfold pPiece
  have h0 := gok_atom (s := s) hA st
  revert h0
  cases pAtom A s st with
  | bad a => intro _; exact GOk.bad _ _
  | ok t st1 =>
    intro h0
    obtain ⟨h1, h2⟩ := h0 t st1 rfl
    simp only
    split
    · exact GOk.ok h1 h2
    · split
      · exact GOk.bad _ _
      · split
        · exact (gok_lazy h2 _ _ _ _).mono h1
        · split
          · exact (gok_lazy h2 _ _ _ _).mono h1
          · split
            · exact (gok_lazy h2 _ _ _ _).mono h1
            · split
              · exact (gok_count h2).mono h1
              · exact GOk.ok h1 h2
theorem gok_row (hA : ∀ st, GOk st.groups (A st)) : ∀ (f : Nat) (st : PS) (acc : List Tr), GLeL st.groups acc → GOk st.groups (pRow A s f st acc)
  | 0, st, _, _ => GOk.bad _ _
  | f + 1, st, acc, h => by
    rw [pRow]
    split
    · exact GOk.ok (Nat.le_refl _) (by rw [Tr.GLe]; exact h)
    · split
      · exact GOk.ok (Nat.le_refl _) (by rw [Tr.GLe]; exact h)
      · have h0 := gok_piece (s := s) hA st
        revert h0
        cases pPiece A s st with
        | bad a => intro _; exact GOk.bad _ _
        | ok t st1 =>
          intro h0
          obtain ⟨h1, h2⟩ := h0 t st1 rfl
          exact (gok_row hA f st1 (acc ++ [t]) ((h.mono h1).snoc h2)).mono h1
theorem gok_alts (hA : ∀ st, GOk st.groups (A st)) : ∀ (f : Nat) (st : PS) (acc : List Tr), GLeL st.groups acc → GOk st.groups (pAlts A s f st acc)
  | 0, st, _, _ => GOk.bad _ _
  | f + 1, st, acc, h => by
    rw [pAlts]
    split
    · have h0 := gok_row (s := s) hA (s.length + 1) (st.to (st.at_ + 1)) [] (by rw [GLeL]; trivial)
      revert h0
      cases pRow A s (s.length + 1) (st.to (st.at_ + 1)) [] with
      | bad a => intro _; exact GOk.bad _ _
      | ok t st1 =>
        intro h0
        obtain ⟨h1, h2⟩ := h0 t st1 rfl
        have h1' : st.groups ≤ st1.groups := h1
        exact (gok_alts hA f st1 (acc ++ [t]) ((h.mono h1').snoc h2)).mono h1'
    · exact GOk.ok (Nat.le_refl _) (by rw [Tr.GLe]; exact h)
end
theorem gok_all (s : List UInt8) : ∀ (f : Nat) (st : PS), GOk st.groups (pAll s f st)
  | 0, st => GOk.bad _ _
  | f + 1, st => by
    rw [pAll]
    have hA := gok_all s f
    have h0 := gok_row (s := s) hA (s.length + 1) st [] (by rw [GLeL]; trivial)
    revert h0
    cases pRow (pAll s f) s (s.length + 1) st [] with
    | bad a => intro _; exact GOk.bad _ _
    | ok t st1 =>
      intro h0
      obtain ⟨h1, h2⟩ := h0 t st1 rfl
      refine (gok_alts hA (s.length + 1) st1 [t] ?_).mono h1
      simp only [GLeL]
      exact ⟨h2, trivial⟩
theorem read_gle {s : List UInt8} {t : Tr} {g : Nat} (h : readRx s = .ok t g) : t.GLe g := by
  unfold readRx at h
  have h0 := gok_all s (s.length + 1) ⟨0, 0, 0, 0⟩
  revert h h0
  cases pAll s (s.length + 1) ⟨0, 0, 0, 0⟩ with
  | bad a => intro h; cases h
  | ok u st =>
    intro h h0
    have h1 := (h0 u st rfl).2
    simp only at h
    split at h
    · cases h
    · split at h
      · cases h
      · cases h
        exact h1
/-- All marks lie below m. -/
def MarksLt (m : Nat) (l : List Stp) : Prop := ∀ x ∈ l, x.op = 3 → x.mark < m
theorem MarksLt.append {m : Nat} {l k : List Stp} (h : MarksLt m l) (g : MarksLt m k) : MarksLt m (l ++ k) := fun x hx => (List.mem_append.1 hx).elim (h x) (g x)
theorem MarksLt.cons {m : Nat} {y : Stp} {k : List Stp} (h : y.op = 3 → y.mark < m) (g : MarksLt m k) : MarksLt m (y :: k) := fun x hx => by
  rcases List.mem_cons.1 hx with rfl | hx
  · exact h
  · exact g x hx
theorem MarksLt.nil {m : Nat} : MarksLt m [] := fun _ h => by cases h
theorem fork_mark {a b : Nat} {lazy : Bool} {m : Nat} : (Stp.fork a b lazy).op = 3 → (Stp.fork a b lazy).mark < m := by cases lazy <;> intro h <;> exact absurd h (by simp [Stp.fork])
theorem marks_copies {f : Nat → List Stp} {n m : Nat} (hf : ∀ b, MarksLt m (f b)) : ∀ k b, MarksLt m (copies f n b k)
  | 0, _ => MarksLt.nil
  | k + 1, b => by rw [copies]; exact (hf b).append (marks_copies hf k _)
theorem marks_forks {f : Nat → List Stp} {n e m : Nat} {lazy : Bool} (hf : ∀ b, MarksLt m (f b)) : ∀ k b, MarksLt m (forks f n e lazy b k)
  | 0, _ => MarksLt.nil
  | k + 1, b => by rw [forks]; exact MarksLt.cons fork_mark ((hf _).append (marks_forks hf k _))
mutual
theorem Tr.lay_marks {g : Nat} : ∀ (t : Tr) (b : Nat), t.GLe g → MarksLt (2 * g + 2) (t.lay b)
  | .bytes _, _, _ => MarksLt.cons (fun h => absurd h (by simp [Stp.set])) MarksLt.nil
  | .edge e, _, _ => MarksLt.cons (fun h => by cases e <;> exact absurd h (by decide)) MarksLt.nil
  | .group n t, b, h => by
    rw [Tr.GLe] at h
    rw [Tr.lay]
    exact MarksLt.cons (fun _ => by show 2 * n < _; have := h.1; omega) ((t.lay_marks _ h.2).append (MarksLt.cons (fun _ => by show 2 * n + 1 < _; have := h.1; omega) MarksLt.nil))
  | .row l, b, h => by rw [Tr.GLe] at h; rw [Tr.lay]; exact row_marks l b h
  | .alts l, b, h => by rw [Tr.GLe] at h; rw [Tr.lay]; exact alts_marks l b _ h
  | .rep t least most plus lazy, b, h => by
    rw [Tr.GLe] at h
    have hf : ∀ b, MarksLt (2 * g + 2) (t.lay b) := fun b => t.lay_marks b h
    cases plus with
    | true =>
      simp only [Tr.lay, if_true]
      exact (hf b).append (MarksLt.cons fork_mark MarksLt.nil)
    | false =>
      cases most with
      | none =>
        simp only [Tr.lay, Bool.false_eq_true, if_false]
        exact (marks_copies hf _ _).append (MarksLt.cons fork_mark ((hf _).append (MarksLt.cons (fun h => absurd h (by simp [Stp.jump])) MarksLt.nil)))
      | some m =>
        simp only [Tr.lay, Bool.false_eq_true, if_false]
        exact (marks_copies hf _ _).append (marks_forks hf _ _)
theorem row_marks {g : Nat} : ∀ (l : List Tr) (b : Nat), GLeL g l → MarksLt (2 * g + 2) (layRow l b)
  | [], _, _ => MarksLt.nil
  | t :: l, b, h => by rw [GLeL] at h; rw [layRow]; exact (t.lay_marks b h.1).append (row_marks l _ h.2)
theorem alts_marks {g : Nat} : ∀ (l : List Tr) (b fin : Nat), GLeL g l → MarksLt (2 * g + 2) (layAlts l b fin)
  | [], _, _, _ => MarksLt.nil
  | [t], b, _, h => by rw [GLeL] at h; rw [layAlts]; exact t.lay_marks b h.1
  | t :: u :: l, b, fin, h => by
    rw [GLeL] at h
    rw [layAlts]
    exact MarksLt.cons fork_mark ((t.lay_marks _ h.1).append (MarksLt.cons (fun h => absurd h (by simp [Stp.jump])) (alts_marks (u :: l) _ fin h.2)))
end
theorem machine_marks {t : Tr} {g : Nat} (h : t.GLe g) : MarksLt (2 * g + 2) (machine t) := by
  unfold machine
  exact (t.lay_marks 0 h).append (MarksLt.cons (fun h => absurd h (by simp [Stp.plain])) MarksLt.nil)
end Go.Proofs.YtamlnkmcbbeicaaDoor.RX
