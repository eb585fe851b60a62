/- The machine run over a text by threads: what it answers is whether the end can be reached. No program in sight. -/
import Derived.Test.YtamlnkmcbbeicaaDoorRx1
namespace Go.Proofs.YtamlnkmcbbeicaaDoor.RX

abbrev Th := Nat × List Int
/-- A way laid behind, through all that takes no byte. -/
def follow (prog : List Stp) (i fin : Nat) : Nat → List Th → List Bool → List Th → List Bool × List Th
  | 0, _, seen, l => (seen, l)
  | _ + 1, [], seen, l => (seen, l)
  | f + 1, (pc, m) :: todo, seen, l =>
    if seen[pc]! then follow prog i fin f todo seen l else
    match prog[pc]! with
    | ⟨op, _, first, other, mark⟩ =>
      if op = 1 then (if i = 0 then follow prog i fin f ((pc + 1, m) :: todo) (seen.set pc true) l else follow prog i fin f todo (seen.set pc true) l)
      else if op = 2 then (if i = fin then follow prog i fin f ((pc + 1, m) :: todo) (seen.set pc true) l else follow prog i fin f todo (seen.set pc true) l)
      else if op = 3 then follow prog i fin f ((pc + 1, m.set mark i) :: todo) (seen.set pc true) l
      else if op = 5 then follow prog i fin f ((first, m) :: (other, m) :: todo) (seen.set pc true) l
      else if op = 4 then follow prog i fin f ((first, m) :: todo) (seen.set pc true) l
      else follow prog i fin f todo (seen.set pc true) (l ++ [(pc, m)])

/-- (pc, i) can be reached. -/
inductive Rch (prog : List Stp) (s : List UInt8) : Nat → Nat → Prop where
  | start : Rch prog s 0 0
  | step {pc i q j : Nat} : Rch prog s pc i → Stp1 prog s pc i q j → Rch prog s q j
/-- All that goes on goes on within; ops are 0 to 6. -/
def Within (prog : List Stp) : Prop := 0 < prog.length ∧ ∀ pc x, prog[pc]? = some x → x.op ≤ 6 ∧ (x.op ≤ 3 → pc + 1 < prog.length) ∧ ((x.op = 4 ∨ x.op = 5) → x.first < prog.length) ∧ (x.op = 5 → x.other < prog.length)
theorem Stp1.lt {prog : List Stp} {s : List UInt8} {pc i q j : Nat} (h : Stp1 prog s pc i q j) (hw : Within prog) : q < prog.length := by
  obtain ⟨x, hx, h⟩ := h
  obtain ⟨h0, h1, h2, h3⟩ := hw.2 pc x hx
  rcases h with ⟨e, _, rfl, _⟩ | ⟨e, _, rfl, _⟩ | ⟨e, _, rfl, _⟩ | ⟨e, rfl, _⟩ | ⟨e, rfl, _⟩ | ⟨e, rfl | rfl, _⟩
  · exact h1 (by omega)
  · exact h1 (by omega)
  · exact h1 (by omega)
  · exact h1 (by omega)
  · exact h2 (.inl e)
  · exact h2 (.inr e)
  · exact h3 e
/-- Does a step stay, or end? -/
def Stay (prog : List Stp) (pc : Nat) : Prop := ∃ x, prog[pc]? = some x ∧ (x.op = 0 ∨ 6 ≤ x.op)
/-- What stands while a way is followed. -/
structure Fol (prog : List Stp) (s : List UInt8) (i : Nat) (todo : List Th) (seen : List Bool) (l : List Th) : Prop where
  len : seen.length = prog.length
  inb : ∀ t ∈ todo, t.1 < prog.length
  rch : ∀ pc, seen[pc]? = some true → Rch prog s pc i
  rch' : ∀ t ∈ todo, Rch prog s t.1 i
  closed : ∀ pc q, seen[pc]? = some true → Stp1 prog s pc i q i → seen[q]? = some true ∨ ∃ t ∈ todo, t.1 = q
  list : ∀ pc, (∃ m, (pc, m) ∈ l) ↔ seen[pc]? = some true ∧ Stay prog pc
section
variable {prog : List Stp} {s : List UInt8} {i : Nat}
theorem Fol.skip {pc : Nat} {m : List Int} {todo l : List Th} {seen : List Bool} (h : Fol prog s i ((pc, m) :: todo) seen l) (hs : seen[pc]? = some true) : Fol prog s i todo seen l where
  len := h.len
  inb t ht := h.inb t (List.mem_cons_of_mem _ ht)
  rch := h.rch
  rch' t ht := h.rch' t (List.mem_cons_of_mem _ ht)
  closed p q hp hq := by
    rcases h.closed p q hp hq with h1 | ⟨t, ht, rfl⟩
    · exact .inl h1
    · rcases List.mem_cons.1 ht with rfl | ht
      · exact .inl hs
      · exact .inr ⟨t, ht, rfl⟩
  list := h.list
theorem Fol.take {pc : Nat} {m : List Int} {todo todo' l l' : List Th} {seen : List Bool} (hw : Within prog) (h : Fol prog s i ((pc, m) :: todo) seen l) (hs : seen[pc]? = some false)
    (hA : ∀ q, Stp1 prog s pc i q i → ∃ t ∈ todo', t.1 = q) (hB : ∀ t ∈ todo', t ∈ todo ∨ Stp1 prog s pc i t.1 i) (hC : ∀ t ∈ todo, t ∈ todo') (hl : (Stay prog pc ∧ l' = l ++ [(pc, m)]) ∨ (¬ Stay prog pc ∧ l' = l)) :
    Fol prog s i todo' (seen.set pc true) l' := by
  have hlt : pc < seen.length := (List.getElem?_eq_some_iff.1 hs).1
  have hset : ∀ p, (seen.set pc true)[p]? = some true ↔ p = pc ∨ seen[p]? = some true := by
    intro p
    rw [List.getElem?_set]
    by_cases e : pc = p
    · subst e; simp [hlt]
    · rw [if_neg e]
      exact ⟨.inr, fun h => h.elim (fun e' => absurd e'.symm e) id⟩
  have hpc : Rch prog s pc i := h.rch' _ List.mem_cons_self
  refine ⟨by rw [List.length_set]; exact h.len, fun t ht => ?_, fun p hp => ?_, fun t ht => ?_, fun p q hp hq => ?_, fun p => ?_⟩
  · rcases hB t ht with h1 | h1
    · exact h.inb t (List.mem_cons_of_mem _ h1)
    · exact h1.lt hw
  · rcases (hset p).1 hp with rfl | hp
    · exact hpc
    · exact h.rch p hp
  · rcases hB t ht with h1 | h1
    · exact h.rch' t (List.mem_cons_of_mem _ h1)
    · exact .step hpc h1
  · rw [hset]
    rcases (hset p).1 hp with rfl | hp
    · exact .inr (hA q hq)
    · rcases h.closed p q hp hq with h1 | ⟨t, ht, rfl⟩
      · exact .inl (.inr h1)
      · rcases List.mem_cons.1 ht with rfl | ht
        · exact .inl (.inl rfl)
        · exact .inr ⟨t, hC t ht, rfl⟩
  · rw [hset]
    rcases hl with ⟨h1, rfl⟩ | ⟨h1, rfl⟩
    · constructor
      · rintro ⟨m', hm⟩
        rcases List.mem_append.1 hm with hm | hm
        · obtain ⟨h2, h3⟩ := (h.list p).1 ⟨m', hm⟩
          exact ⟨.inr h2, h3⟩
        · simp only [List.mem_singleton, Prod.mk.injEq] at hm
          obtain ⟨rfl, _⟩ := hm
          exact ⟨.inl rfl, h1⟩
      · rintro ⟨rfl | h2, h3⟩
        · exact ⟨m, by simp⟩
        · obtain ⟨m', hm⟩ := (h.list p).2 ⟨h2, h3⟩
          exact ⟨m', List.mem_append_left _ hm⟩
    · rw [h.list p]
      constructor
      · rintro ⟨h2, h3⟩; exact ⟨.inr h2, h3⟩
      · rintro ⟨rfl | h2, h3⟩
        · exact absurd h3 h1
        · exact ⟨h2, h3⟩
theorem count_set {seen : List Bool} {pc : Nat} (hs : seen[pc]? = some false) : (seen.set pc true).count false + 1 = seen.count false := by
  induction seen generalizing pc with
  | nil => simp at hs
  | cons b l ih =>
    cases pc with
    | zero =>
      obtain rfl : b = false := by simpa using hs
      simp
    | succ pc =>
      have := ih (pc := pc) (by simpa using hs)
      simp only [List.set_cons_succ, List.count_cons]
      omega
theorem follow_fol (hw : Within prog) : ∀ (f : Nat) (todo : List Th) (seen : List Bool) (l : List Th), Fol prog s i todo seen l → 2 * seen.count false + todo.length ≤ f →
    Fol prog s i [] (follow prog i s.length f todo seen l).1 (follow prog i s.length f todo seen l).2 ∧ (∀ pc : Nat, seen[pc]? = some true → (follow prog i s.length f todo seen l).1[pc]? = some true) ∧ ∀ t ∈ todo, (follow prog i s.length f todo seen l).1[t.1]? = some true
  | 0, todo, seen, l, h, hf => by
    obtain rfl : todo = [] := List.length_eq_zero_iff.1 (by omega)
    exact ⟨h, fun _ h => h, fun _ h => by cases h⟩
  | f + 1, [], seen, l, h, _ => ⟨h, fun _ h => h, fun _ h => by cases h⟩
  | f + 1, (pc, m) :: todo, seen, l, h, hf => by
    have hlt : pc < prog.length := h.inb _ List.mem_cons_self
    have hlt' : pc < seen.length := by rw [h.len]; exact hlt
    simp only [List.length_cons] at hf
    rw [follow]
    cases hb : seen[pc]! with
    | true =>
      have hs : seen[pc]? = some true := by rw [getElem!_pos seen pc hlt'] at hb; rw [List.getElem?_eq_getElem hlt', hb]
      rw [if_pos rfl]
      obtain ⟨h1, h2, h3⟩ := follow_fol hw f todo seen l (h.skip hs) (by omega)
      refine ⟨h1, h2, fun t ht => ?_⟩
      rcases List.mem_cons.1 ht with rfl | ht
      · exact h2 _ hs
      · exact h3 t ht
    | false =>
      have hs : seen[pc]? = some false := by rw [getElem!_pos seen pc hlt'] at hb; rw [List.getElem?_eq_getElem hlt', hb]
      rw [if_neg (by simp)]
      have hc := count_set hs
      have hx : prog[pc]? = some prog[pc]! := by rw [List.getElem?_eq_getElem hlt, getElem!_pos prog pc hlt]
      -- what remains once the rest has been followed
      have fin : ∀ todo' l', Fol prog s i todo' (seen.set pc true) l' → todo'.length ≤ todo.length + 2 → (∀ t ∈ todo, t ∈ todo') →
          Fol prog s i [] (follow prog i s.length f todo' (seen.set pc true) l').1 (follow prog i s.length f todo' (seen.set pc true) l').2 ∧ (∀ p : Nat, seen[p]? = some true → (follow prog i s.length f todo' (seen.set pc true) l').1[p]? = some true) ∧ ∀ t ∈ (pc, m) :: todo, (follow prog i s.length f todo' (seen.set pc true) l').1[t.1]? = some true := by
        intro todo' l' h4 h5 h6
        obtain ⟨h1, h2, h3⟩ := follow_fol hw f todo' (seen.set pc true) l' h4 (by omega)
        have hset : ∀ p, p = pc ∨ seen[p]? = some true → (seen.set pc true)[p]? = some true := by
          intro p hp
          rw [List.getElem?_set]
          by_cases e : pc = p
          · subst e; simp [hlt']
          · rw [if_neg e]; exact hp.elim (fun e' => absurd e'.symm e) id
        refine ⟨h1, fun p hp => h2 p (hset p (.inr hp)), fun t ht => ?_⟩
        rcases List.mem_cons.1 ht with rfl | ht
        · exact h2 _ (hset _ (.inl rfl))
        · exact h3 t (h6 t ht)
      have hop := (hw.2 pc _ hx).1
      generalize prog[pc]! = x at hx hop
      obtain ⟨op, inn, first, other, mark⟩ := x
      simp only at hop ⊢
      have hst : ∀ q, Stp1 prog s pc i q i ↔ ((op = 1 ∧ i = 0 ∧ q = pc + 1) ∨ (op = 2 ∧ i = s.length ∧ q = pc + 1) ∨ (op = 3 ∧ q = pc + 1) ∨ (op = 4 ∧ q = first) ∨ (op = 5 ∧ (q = first ∨ q = other))) := by
        intro q
        constructor
        · intro h
          have := h.of hx
          simp only at this
          rcases this with ⟨_, _, _, e⟩ | h1 | h1 | h1 | h1 | h1
          · omega
          · exact .inl ⟨h1.1, h1.2.1, h1.2.2.1⟩
          · exact .inr (.inl ⟨h1.1, h1.2.1, h1.2.2.1⟩)
          · exact .inr (.inr (.inl ⟨h1.1, h1.2.1⟩))
          · exact .inr (.inr (.inr (.inl ⟨h1.1, h1.2.1⟩)))
          · exact .inr (.inr (.inr (.inr ⟨h1.1, h1.2.1⟩)))
        · intro h
          refine ⟨_, hx, ?_⟩
          simp only
          rcases h with h1 | h1 | h1 | h1 | h1
          · exact .inr (.inl ⟨h1.1, h1.2.1, h1.2.2, trivial⟩)
          · exact .inr (.inr (.inl ⟨h1.1, h1.2.1, h1.2.2, trivial⟩))
          · exact .inr (.inr (.inr (.inl ⟨h1.1, h1.2, trivial⟩)))
          · exact .inr (.inr (.inr (.inr (.inl ⟨h1.1, h1.2, trivial⟩))))
          · exact .inr (.inr (.inr (.inr (.inr ⟨h1.1, h1.2, trivial⟩))))
      have hstay : Stay prog pc ↔ (op = 0 ∨ 6 ≤ op) := ⟨fun ⟨x, h1, h2⟩ => by rw [hx] at h1; cases h1; exact h2, fun h => ⟨_, hx, h⟩⟩
      by_cases e1 : op = 1
      · rw [if_pos e1]
        by_cases ei : i = 0
        · rw [if_pos ei]
          refine fin _ _ (h.take hw hs (fun q hq => ?_) (fun t ht => ?_) (fun t ht => List.mem_cons_of_mem _ ht) (.inr ⟨by rw [hstay]; omega, rfl⟩)) (by simp) (fun t ht => List.mem_cons_of_mem _ ht)
          · have := (hst q).1 hq
            exact ⟨_, List.mem_cons_self, by show pc + 1 = q; omega⟩
          · rcases List.mem_cons.1 ht with rfl | ht
            · exact .inr ((hst _).2 (.inl ⟨e1, ei, rfl⟩))
            · exact .inl ht
        · rw [if_neg ei]
          refine fin _ _ (h.take hw hs (fun q hq => ?_) (fun t ht => .inl ht) (fun t ht => ht) (.inr ⟨by rw [hstay]; omega, rfl⟩)) (by simp) (fun t ht => ht)
          have := (hst q).1 hq
          omega
      rw [if_neg e1]
      by_cases e2 : op = 2
      · rw [if_pos e2]
        by_cases ei : i = s.length
        · rw [if_pos ei]
          refine fin _ _ (h.take hw hs (fun q hq => ?_) (fun t ht => ?_) (fun t ht => List.mem_cons_of_mem _ ht) (.inr ⟨by rw [hstay]; omega, rfl⟩)) (by simp) (fun t ht => List.mem_cons_of_mem _ ht)
          · have := (hst q).1 hq
            exact ⟨_, List.mem_cons_self, by show pc + 1 = q; omega⟩
          · rcases List.mem_cons.1 ht with rfl | ht
            · exact .inr ((hst _).2 (.inr (.inl ⟨e2, ei, rfl⟩)))
            · exact .inl ht
        · rw [if_neg ei]
          refine fin _ _ (h.take hw hs (fun q hq => ?_) (fun t ht => .inl ht) (fun t ht => ht) (.inr ⟨by rw [hstay]; omega, rfl⟩)) (by simp) (fun t ht => ht)
          have := (hst q).1 hq
          omega
      rw [if_neg e2]
      by_cases e3 : op = 3
      · rw [if_pos e3]
        refine fin _ _ (h.take hw hs (fun q hq => ?_) (fun t ht => ?_) (fun t ht => List.mem_cons_of_mem _ ht) (.inr ⟨by rw [hstay]; omega, rfl⟩)) (by simp) (fun t ht => List.mem_cons_of_mem _ ht)
        · have := (hst q).1 hq
          exact ⟨_, List.mem_cons_self, by show pc + 1 = q; omega⟩
        · rcases List.mem_cons.1 ht with rfl | ht
          · exact .inr ((hst _).2 (.inr (.inr (.inl ⟨e3, rfl⟩))))
          · exact .inl ht
      rw [if_neg e3]
      by_cases e5 : op = 5
      · rw [if_pos e5]
        refine fin _ _ (h.take hw hs (fun q hq => ?_) (fun t ht => ?_) (fun t ht => List.mem_cons_of_mem _ (List.mem_cons_of_mem _ ht)) (.inr ⟨by rw [hstay]; omega, rfl⟩)) (by simp) (fun t ht => List.mem_cons_of_mem _ (List.mem_cons_of_mem _ ht))
        · have h1 : q = first ∨ q = other := by have := (hst q).1 hq; omega
          rcases h1 with rfl | rfl
          · exact ⟨_, List.mem_cons_self, rfl⟩
          · exact ⟨_, List.mem_cons_of_mem _ List.mem_cons_self, rfl⟩
        · rcases List.mem_cons.1 ht with rfl | ht
          · exact .inr ((hst _).2 (.inr (.inr (.inr (.inr ⟨e5, .inl rfl⟩)))))
          · rcases List.mem_cons.1 ht with rfl | ht
            · exact .inr ((hst _).2 (.inr (.inr (.inr (.inr ⟨e5, .inr rfl⟩)))))
            · exact .inl ht
      rw [if_neg e5]
      by_cases e4 : op = 4
      · rw [if_pos e4]
        refine fin _ _ (h.take hw hs (fun q hq => ?_) (fun t ht => ?_) (fun t ht => List.mem_cons_of_mem _ ht) (.inr ⟨by rw [hstay]; omega, rfl⟩)) (by simp) (fun t ht => List.mem_cons_of_mem _ ht)
        · have := (hst q).1 hq
          exact ⟨_, List.mem_cons_self, by show first = q; omega⟩
        · rcases List.mem_cons.1 ht with rfl | ht
          · exact .inr ((hst _).2 (.inr (.inr (.inr (.inl ⟨e4, rfl⟩)))))
          · exact .inl ht
      rw [if_neg e4]
      refine fin _ _ (h.take hw hs (fun q hq => ?_) (fun t ht => .inl ht) (fun t ht => ht) (.inl ⟨by rw [hstay]; omega, rfl⟩)) (by simp) (fun t ht => ht)
      have := (hst q).1 hq
      omega
end
/-- The threads of one place, each gone on over the byte that stands there; the marks, where one is at the end. -/
def scan (prog : List Stp) (s : List UInt8) (i : Nat) : List Th → List Bool → List Th → Option (List Int) × List Th
  | [], _, l => (none, l)
  | (pc, m) :: now, seen, l =>
    if (prog[pc]!).op = 6 ∧ i = s.length then (some m, l)
    else if (prog[pc]!).op = 0 ∧ i < s.length ∧ (prog[pc]!).inn (s[i]!).toNat = true then
      scan prog s i now (follow prog (i + 1) s.length (2 * prog.length + 1) [(pc + 1, m)] seen l).1 (follow prog (i + 1) s.length (2 * prog.length + 1) [(pc + 1, m)] seen l).2
    else scan prog s i now seen l
def runFrom (prog : List Stp) (s : List UInt8) : Nat → Nat → List Th → Option (List Int)
  | 0, _, _ => none
  | f + 1, i, now => match now with
    | [] => none
    | t :: now => match scan prog s i (t :: now) (List.replicate prog.length false) [] with
      | (some m, _) => some m
      | (none, l) => if i = s.length then none else runFrom prog s f (i + 1) l
/-- The marks of the preferred way, if all of s fits. -/
def runRx (prog : List Stp) (marks : Nat) (s : List UInt8) : Option (List Int) :=
  runFrom prog s (s.length + 1) 0 (follow prog 0 s.length (2 * prog.length + 1) [(0, List.replicate marks (-1))] (List.replicate prog.length false) []).2
section
variable {prog : List Stp} {s : List UInt8}
theorem count_le (l : List Bool) : l.count false ≤ l.length := List.count_le_length
/-- The threads of place i are the steps that stay, and can be reached there. -/
def Now (prog : List Stp) (s : List UInt8) (i : Nat) (l : List Th) : Prop := ∀ pc, (∃ m, (pc, m) ∈ l) ↔ Rch prog s pc i ∧ Stay prog pc
theorem rep_not (n pc : Nat) : (List.replicate n false)[pc]? ≠ some true := by
  rw [List.getElem?_replicate]; split <;> simp
theorem fol_start (i : Nat) : Fol prog s i [] (List.replicate prog.length false) [] where
  len := List.length_replicate
  inb _ h := by cases h
  rch pc h := absurd h (rep_not _ _)
  rch' _ h := by cases h
  closed pc _ h := absurd h (rep_not _ _)
  list pc := ⟨fun ⟨_, h⟩ => (by cases h), fun h => absurd h.1 (rep_not _ _)⟩
theorem fol_add {i : Nat} {seen : List Bool} {l : List Th} {pc : Nat} {m : List Int} (h : Fol prog s i [] seen l) (hlt : pc < prog.length) (hr : Rch prog s pc i) : Fol prog s i [(pc, m)] seen l where
  len := h.len
  inb t ht := by rw [List.mem_singleton.1 ht]; exact hlt
  rch := h.rch
  rch' t ht := by rw [List.mem_singleton.1 ht]; exact hr
  closed p q hp hq := .inl ((h.closed p q hp hq).elim id fun ⟨_, ht, _⟩ => by cases ht)
  list := h.list
theorem scan_spec (hw : Within prog) {i : Nat} (hall : List Th) (hnow : Now prog s i hall) : ∀ (done now : List Th) (seen : List Bool) (l : List Th), hall = done ++ now → Fol prog s (i + 1) [] seen l →
    (∀ t ∈ done, ∀ x, prog[t.1]? = some x → x.op = 0 → ∀ c, s[i]? = some c → x.inn c.toNat = true → seen[t.1 + 1]? = some true) → (∀ t ∈ done, ∀ x, prog[t.1]? = some x → ¬ (x.op = 6 ∧ i = s.length)) →
    match scan prog s i now seen l with
    | (some _, _) => i = s.length ∧ ∃ pc x, prog[pc]? = some x ∧ x.op = 6 ∧ Rch prog s pc i
    | (none, l') => Now prog s (i + 1) l' ∧ ∀ t ∈ hall, ∀ x, prog[t.1]? = some x → ¬ (x.op = 6 ∧ i = s.length)
  | done, [], seen, l, he, hf, hd, hd6 => by
    rw [scan]
    rw [List.append_nil] at he
    subst he
    refine ⟨fun pc => ?_, hd6⟩
    rw [hf.list pc]
    constructor
    · rintro ⟨h1, h2⟩; exact ⟨hf.rch pc h1, h2⟩
    · rintro ⟨h1, h2⟩
      refine ⟨?_, h2⟩
      clear h2
      obtain ⟨j, hj⟩ : ∃ j, j = i + 1 := ⟨_, rfl⟩
      rw [← hj] at h1
      induction h1 with
      | start => omega
      | @step p k q j' hr hst ih =>
        subst hj
        by_cases hk : k = i + 1
        · subst hk
          rcases hf.closed p q (ih rfl) hst with h3 | ⟨_, ht, _⟩
          · exact h3
          · cases ht
        · obtain ⟨x, hx, hst⟩ := hst
          rcases hst with ⟨e, ⟨c, hc, hin⟩, rfl, e2⟩ | ⟨_, _, _, e⟩ | ⟨_, _, _, e⟩ | ⟨_, _, e⟩ | ⟨_, _, e⟩ | ⟨_, _, e⟩
          · obtain rfl : k = i := by omega
            obtain ⟨m, hm⟩ := (hnow p).2 ⟨hr, x, hx, .inl e⟩
            exact hd _ hm x hx e c hc hin
          all_goals omega
  | done, (pc, m) :: now, seen, l, he, hf, hd, hd6 => by
    have hmem : (pc, m) ∈ hall := by rw [he]; simp
    obtain ⟨hr, x, hx, hx6⟩ := (hnow pc).1 ⟨m, hmem⟩
    have hx' : prog[pc]! = x := by
      obtain ⟨h1, h2⟩ := List.getElem?_eq_some_iff.1 hx
      rw [getElem!_pos prog pc h1, h2]
    rw [scan, hx']
    by_cases h6 : x.op = 6 ∧ i = s.length
    · rw [if_pos h6]
      exact ⟨h6.2, pc, x, hx, h6.1, hr⟩
    · rw [if_neg h6]
      have hd6' : ∀ t ∈ done ++ [(pc, m)], ∀ y, prog[t.1]? = some y → ¬ (y.op = 6 ∧ i = s.length) := by
        intro t ht y hy
        rcases List.mem_append.1 ht with ht | ht
        · exact hd6 t ht y hy
        · rw [List.mem_singleton.1 ht] at hy
          rw [hx] at hy; cases hy; exact h6
      by_cases h0 : x.op = 0 ∧ i < s.length ∧ x.inn (s[i]!).toNat = true
      · rw [if_pos h0]
        have hlt := h0.2.1
        have hc : s[i]? = some s[i]! := by rw [List.getElem?_eq_getElem hlt, getElem!_pos s i hlt]
        have hst : Stp1 prog s pc i (pc + 1) (i + 1) := ⟨x, hx, .inl ⟨h0.1, ⟨_, hc, h0.2.2⟩, rfl, rfl⟩⟩
        have hfa := fol_add (m := m) hf (hst.lt hw) (.step hr hst)
        obtain ⟨h1, h2, h3⟩ := follow_fol hw (2 * prog.length + 1) _ _ _ hfa (by have := count_le seen; rw [hf.len] at this; simp; omega)
        refine scan_spec hw hall hnow (done ++ [(pc, m)]) now _ _ (by rw [he]; simp) h1 (fun t ht y hy e c hc' hin => ?_) hd6'
        rcases List.mem_append.1 ht with ht | ht
        · exact h2 _ (hd t ht y hy e c hc' hin)
        · rw [List.mem_singleton.1 ht]
          exact h3 _ List.mem_cons_self
      · rw [if_neg h0]
        refine scan_spec hw hall hnow (done ++ [(pc, m)]) now seen l (by rw [he]; simp) hf (fun t ht y hy e c hc' hin => ?_) hd6'
        rcases List.mem_append.1 ht with ht | ht
        · exact hd t ht y hy e c hc' hin
        · exfalso
          rw [List.mem_singleton.1 ht] at hy
          rw [hx] at hy; cases hy
          obtain ⟨h1, h2⟩ := List.getElem?_eq_some_iff.1 hc'
          exact h0 ⟨e, h1, by rw [getElem!_pos s i h1, h2]; exact hin⟩
theorem rch_le {i : Nat} (h0 : ∀ pc x, Rch prog s pc i → prog[pc]? = some x → x.op ≠ 0) : ∀ {pc j}, Rch prog s pc j → j ≤ i := by
  intro pc j h
  induction h with
  | start => omega
  | @step p k q j' hr hst ih =>
    obtain ⟨x, hx, hst⟩ := hst
    rcases hst with ⟨e, _, _, e2⟩ | ⟨_, _, _, e⟩ | ⟨_, _, _, e⟩ | ⟨_, _, e⟩ | ⟨_, _, e⟩ | ⟨_, _, e⟩
    · by_cases hk : k = i
      · subst hk; exact absurd e (h0 p x hr hx)
      · omega
    all_goals omega
theorem runFrom_spec (hw : Within prog) : ∀ (f i : Nat) (now : List Th), i + f = s.length + 1 → i ≤ s.length → Now prog s i now → ((runFrom prog s f i now).isSome = true ↔ ∃ pc x, prog[pc]? = some x ∧ x.op = 6 ∧ Rch prog s pc s.length)
  | 0, i, now, hf, hi, _ => by omega
  | f + 1, i, [], hf, hi, hn => by
    have h0 : ∀ pc x, Rch prog s pc i → prog[pc]? = some x → x.op ≠ 0 := fun pc x hr hx e => by
      obtain ⟨_, h⟩ := (hn pc).2 ⟨hr, x, hx, .inl e⟩
      cases h
    rw [runFrom]
    refine ⟨fun h => (by cases h), ?_⟩
    rintro ⟨pc, x, hx, h6, hr⟩
    have := rch_le h0 hr
    obtain rfl : i = s.length := by omega
    obtain ⟨_, h⟩ := (hn pc).2 ⟨hr, x, hx, .inr (by omega)⟩
    cases h
  | f + 1, i, t :: now, hf, hi, hn => by
    rw [runFrom]
    have hsc := scan_spec hw (t :: now) hn [] (t :: now) (List.replicate prog.length false) [] rfl (fol_start _) (fun _ h => by cases h) (fun _ h => by cases h)
    revert hsc
    rcases scan prog s i (t :: now) (List.replicate prog.length false) [] with ⟨_ | m, l⟩
    · rintro ⟨h1, h2⟩
      simp only
      by_cases e : i = s.length
      · rw [if_pos e]
        refine ⟨fun h => (by cases h), ?_⟩
        rintro ⟨pc, x, hx, h6, hr⟩
        rw [← e] at hr
        obtain ⟨m, hm⟩ := (hn pc).2 ⟨hr, x, hx, .inr (by omega)⟩
        exact absurd ⟨h6, e⟩ (h2 _ hm x hx)
      · rw [if_neg e]
        exact runFrom_spec hw f (i + 1) l (by omega) (by omega) h1
    · rintro ⟨h1, pc, x, hx, h6, hr⟩
      simp only [Option.isSome_some, true_iff]
      exact ⟨pc, x, hx, h6, by rw [← h1]; exact hr⟩
theorem run_spec (hw : Within prog) (marks : Nat) : (runRx prog marks s).isSome = true ↔ ∃ pc x, prog[pc]? = some x ∧ x.op = 6 ∧ Rch prog s pc s.length := by
  unfold runRx
  obtain ⟨h1, h2, h3⟩ := follow_fol hw (2 * prog.length + 1) _ _ _ (fol_add (m := List.replicate marks (-1)) (fol_start (prog := prog) (s := s) 0) hw.1 .start) (by have := count_le (List.replicate prog.length false); rw [List.length_replicate] at this; simp only [List.length_singleton]; omega)
  refine runFrom_spec hw _ 0 _ (by omega) (by omega) fun pc => ?_
  rw [h1.list pc]
  constructor
  · rintro ⟨h4, h5⟩; exact ⟨h1.rch pc h4, h5⟩
  · rintro ⟨h4, h5⟩
    refine ⟨?_, h5⟩
    clear h5
    obtain ⟨j, hj⟩ : ∃ j, j = 0 := ⟨_, rfl⟩
    rw [← hj] at h4
    induction h4 with
    | start => exact h3 _ List.mem_cons_self
    | @step p k q j' hr hst ih =>
      subst hj
      have hk : k = 0 := by
        obtain ⟨x, hx, hst⟩ := hst
        omega
      subst hk
      rcases h1.closed p q (ih rfl) hst with h3 | ⟨_, ht, _⟩
      · exact h3
      · cases ht
end
theorem rch_steps {prog : List Stp} {s : List UInt8} {pc i : Nat} (h : Rch prog s pc i) : ∀ n q j, Steps prog s n pc i q j → ∃ m, Steps prog s m 0 0 q j := by
  induction h with
  | start => intro n q j h; exact ⟨n, h⟩
  | step hr hst ih => intro n q j h; exact ih (n + 1) q j ⟨_, _, hst, h⟩
theorem rch_acc {prog : List Stp} {s : List UInt8} {pc : Nat} (h : Rch prog s pc s.length) : ∃ n, AccN prog s pc n 0 0 := rch_steps h 0 _ _ ⟨rfl, rfl⟩
theorem steps_rch {prog : List Stp} {s : List UInt8} : ∀ {n pc i q j}, Rch prog s pc i → Steps prog s n pc i q j → Rch prog s q j
  | 0, _, _, _, _, h, ⟨h1, h2⟩ => by rw [← h1, ← h2]; exact h
  | _ + 1, _, _, _, _, h, ⟨_, _, h1, h2⟩ => steps_rch (.step h h1) h2
/-- Steps that go nowhere beyond e. -/
def Good (e : Nat) (l : List Stp) : Prop := ∀ x ∈ l, x.op ≤ 5 ∧ x.first ≤ e ∧ x.other ≤ e
theorem Good.mono {e e' : Nat} {l : List Stp} (h : Good e l) (hle : e ≤ e') : Good e' l := fun x hx => ⟨(h x hx).1, Nat.le_trans (h x hx).2.1 hle, Nat.le_trans (h x hx).2.2 hle⟩
theorem Good.append {e : Nat} {l m : List Stp} (h : Good e l) (g : Good e m) : Good e (l ++ m) := fun x hx => (List.mem_append.1 hx).elim (h x) (g x)
theorem Good.cons {e : Nat} {x : Stp} {m : List Stp} (h : x.op ≤ 5 ∧ x.first ≤ e ∧ x.other ≤ e) (g : Good e m) : Good e (x :: m) := fun y hy => by
  rcases List.mem_cons.1 hy with rfl | hy
  · exact h
  · exact g y hy
theorem Good.nil {e : Nat} : Good e [] := fun _ h => by cases h
theorem good_fork {e a b : Nat} {lazy : Bool} (ha : a ≤ e) (hb : b ≤ e) : (Stp.fork a b lazy).op ≤ 5 ∧ (Stp.fork a b lazy).first ≤ e ∧ (Stp.fork a b lazy).other ≤ e := by
  cases lazy <;> exact ⟨Nat.le_refl _, by first | exact ha | exact hb, by first | exact ha | exact hb⟩
theorem good_copies {f : Nat → List Stp} {n : Nat} (hf : ∀ b, Good (b + n) (f b)) : ∀ k b, Good (b + k * n) (copies f n b k)
  | 0, _ => Good.nil
  | k + 1, b => by
    rw [copies, Nat.succ_mul]
    exact ((hf b).mono (by omega)).append ((good_copies hf k (b + n)).mono (by omega))
theorem good_forks {f : Nat → List Stp} {n e : Nat} {lazy : Bool} (hf : ∀ b, Good (b + n) (f b)) : ∀ k b, b + k * (n + 1) = e → Good e (forks f n e lazy b k)
  | 0, _, _ => Good.nil
  | k + 1, b, he => by
    rw [Nat.succ_mul] at he
    rw [forks]
    exact Good.cons (good_fork (by omega) (Nat.le_refl _)) (((hf (b + 1)).mono (by omega)).append (good_forks hf k (b + 1 + n) (by omega)))
mutual
theorem Tr.lay_good : ∀ (t : Tr) (b : Nat), Good (b + t.size) (t.lay b)
  | .bytes _, _ => Good.cons ⟨Nat.zero_le _, Nat.zero_le _, Nat.zero_le _⟩ Good.nil
  | .edge e, _ => Good.cons ⟨by cases e <;> decide, Nat.zero_le _, Nat.zero_le _⟩ Good.nil
  | .group n t, b => by
    rw [Tr.lay, Tr.size]
    exact Good.cons ⟨(by decide : 3 ≤ 5), Nat.zero_le _, Nat.zero_le _⟩ (((t.lay_good (b + 1)).mono (by omega)).append (Good.cons ⟨(by decide : 3 ≤ 5), Nat.zero_le _, Nat.zero_le _⟩ Good.nil))
  | .row l, b => by rw [Tr.lay, Tr.size]; exact row_good l b
  | .alts l, b => by rw [Tr.lay, Tr.size]; exact alts_good l b _ rfl
  | .rep t least most plus lazy, b => by
    have hf : ∀ b, Good (b + t.size) (t.lay b) := t.lay_good
    cases plus with
    | true =>
      simp only [Tr.lay, Tr.size, if_true]
      exact ((hf b).mono (by omega)).append (Good.cons (good_fork (by omega) (by omega)) Good.nil)
    | false =>
      cases most with
      | none =>
        simp only [Tr.lay, Tr.size, Bool.false_eq_true, if_false]
        exact ((good_copies hf least b).mono (by omega)).append (Good.cons (good_fork (by omega) (by omega)) (((hf _).mono (by omega)).append (Good.cons ⟨(by decide : 4 ≤ 5), by show b + least * t.size ≤ _; omega, Nat.zero_le _⟩ Good.nil)))
      | some m =>
        simp only [Tr.lay, Tr.size, Bool.false_eq_true, if_false]
        exact ((good_copies hf least b).mono (by omega)).append ((good_forks hf _ _ rfl).mono (by omega))
theorem row_good : ∀ (l : List Tr) (b : Nat), Good (b + sizes l) (layRow l b)
  | [], _ => Good.nil
  | t :: l, b => by
    rw [layRow, sizes]
    exact ((t.lay_good b).mono (by omega)).append ((row_good l (b + t.size)).mono (by omega))
theorem alts_good : ∀ (l : List Tr) (b e : Nat), b + (sizes l + 2 * (l.length - 1)) = e → Good e (layAlts l b e)
  | [], _, _, _ => Good.nil
  | [t], b, e, he => by
    rw [layAlts]
    simp [sizes] at he
    exact (t.lay_good b).mono (by omega)
  | t :: u :: l, b, e, he => by
    rw [layAlts]
    rw [sizes] at he
    simp only [List.length_cons] at he
    exact Good.cons (good_fork (by omega) (by omega)) (((t.lay_good (b + 1)).mono (by omega)).append (Good.cons ⟨(by decide : 4 ≤ 5), Nat.le_refl _, Nat.zero_le _⟩ (alts_good (u :: l) (b + t.size + 2) e (by simp only [List.length_cons]; omega))))
end
theorem machine_length (t : Tr) : (machine t).length = t.size + 1 := by unfold machine; rw [List.length_append, t.lay_length]; rfl
theorem machine_get (t : Tr) (pc : Nat) (x : Stp) (h : (machine t)[pc]? = some x) : (pc < t.size ∧ x.op ≤ 5 ∧ x.first ≤ t.size ∧ x.other ≤ t.size) ∨ (pc = t.size ∧ x = .plain 6) := by
  unfold machine at h
  by_cases hlt : pc < t.size
  · rw [List.getElem?_append_left (by rw [t.lay_length]; exact hlt)] at h
    have := t.lay_good 0 x (List.mem_of_getElem? h)
    rw [Nat.zero_add] at this
    exact .inl ⟨hlt, this⟩
  · rw [List.getElem?_append_right (by rw [t.lay_length]; omega), t.lay_length] at h
    have h2 := (List.getElem?_eq_some_iff.1 h).1
    simp at h2
    obtain rfl : pc = t.size := by omega
    rw [Nat.sub_self] at h
    exact .inr ⟨rfl, by simpa using h.symm⟩
theorem machine_within (t : Tr) : Within (machine t) := by
  refine ⟨by rw [machine_length]; omega, fun pc x h => ?_⟩
  rw [machine_length]
  rcases machine_get t pc x h with ⟨h1, h2, h3, h4⟩ | ⟨rfl, rfl⟩
  · exact ⟨by omega, fun _ => by omega, fun _ => by omega, fun _ => by omega⟩
  · exact ⟨Nat.le_refl _, fun h => absurd h (by decide), fun h => absurd h (by decide), fun h => absurd h (by decide)⟩
/-- The machine of a tree, run over a text, answers whether the tree fits it. -/
theorem run_fits (t : Tr) (marks : Nat) (s : List UInt8) : (runRx (machine t) marks s).isSome = true ↔ t.Fits s 0 s.length := by
  rw [run_spec (machine_within t), ← machine_accepts]
  constructor
  · rintro ⟨pc, x, hx, h6, hr⟩
    rcases machine_get t pc x hx with ⟨_, h2, _⟩ | ⟨rfl, rfl⟩
    · omega
    · exact rch_acc hr
  · rintro ⟨n, h⟩
    exact ⟨t.size, .plain 6, by unfold machine; rw [List.getElem?_append_right (by rw [t.lay_length]; exact Nat.le_refl _), t.lay_length, Nat.sub_self]; rfl, rfl, steps_rch .start h⟩
end Go.Proofs.YtamlnkmcbbeicaaDoor.RX
