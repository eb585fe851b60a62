/- Patterns over bytes: trees, what they fit, the machine of a tree, and that the machine accepts what the tree fits. No program in sight. -/
namespace Go.Proofs.YtamlnkmcbbeicaaDoor.RX

/-- A pattern, as it was read. -/
inductive Tr where
  | bytes (p : Nat → Bool)
  | edge (e : Bool)
  | group (n : Nat) (t : Tr)
  | row (l : List Tr)
  | alts (l : List Tr)
  | rep (t : Tr) (least : Nat) (most : Option Nat) (plus lazy : Bool)

/-- A step of a machine. -/
structure Stp where
  op : Nat
  inn : Nat → Bool
  first : Nat
  other : Nat
  mark : Nat

instance : Inhabited Stp := ⟨⟨6, fun _ => false, 0, 0, 0⟩⟩
def Stp.set (p : Nat → Bool) : Stp := ⟨0, p, 0, 0, 0⟩
def Stp.plain (op : Nat) : Stp := ⟨op, fun _ => false, 0, 0, 0⟩
def Stp.mk_ (m : Nat) : Stp := ⟨3, fun _ => false, 0, 0, m⟩
def Stp.jump (a : Nat) : Stp := ⟨4, fun _ => false, a, 0, 0⟩
def Stp.fork (a b : Nat) (lazy : Bool) : Stp := if lazy then ⟨5, fun _ => false, b, a, 0⟩ else ⟨5, fun _ => false, a, b, 0⟩

mutual
/-- How many steps. -/
def Tr.size : Tr → Nat
  | .bytes _ => 1
  | .edge _ => 1
  | .group _ t => t.size + 2
  | .row l => sizes l
  | .alts l => sizes l + 2 * (l.length - 1)
  | .rep t least most plus _ => if plus then t.size + 1 else match most with
    | none => least * t.size + t.size + 2
    | some m => least * t.size + (m - least) * (t.size + 1)
def sizes : List Tr → Nat
  | [] => 0
  | t :: l => t.size + sizes l
end

/-- So many copies, one behind the other, each laid where it stands. -/
def copies (f : Nat → List Stp) (n : Nat) : Nat → Nat → List Stp
  | _, 0 => []
  | b, k + 1 => f b ++ copies f n (b + n) k
/-- A copy behind a fork, so many times. -/
def forks (f : Nat → List Stp) (n fin : Nat) (lazy : Bool) : Nat → Nat → List Stp
  | _, 0 => []
  | b, k + 1 => .fork (b + 1) fin lazy :: (f (b + 1) ++ forks f n fin lazy (b + 1 + n) k)

mutual
/-- The steps of a tree that is laid from b on. -/
def Tr.lay : Tr → Nat → List Stp
  | .bytes p, _ => [.set p]
  | .edge e, _ => [.plain (if e then 2 else 1)]
  | .group n t, b => .mk_ (2 * n) :: (t.lay (b + 1) ++ [.mk_ (2 * n + 1)])
  | .row l, b => layRow l b
  | .alts l, b => layAlts l b (b + (sizes l + 2 * (l.length - 1)))
  | .rep t least most plus lazy, b =>
    if plus then t.lay b ++ [.fork b (b + t.size + 1) lazy] else
    copies t.lay t.size b least ++ match most with
    | none => .fork (b + least * t.size + 1) (b + least * t.size + t.size + 2) lazy :: (t.lay (b + least * t.size + 1) ++ [.jump (b + least * t.size)])
    | some m => forks t.lay t.size (b + least * t.size + (m - least) * (t.size + 1)) lazy (b + least * t.size) (m - least)
def layRow : List Tr → Nat → List Stp
  | [], _ => []
  | t :: l, b => t.lay b ++ layRow l (b + t.size)
def layAlts : List Tr → Nat → Nat → List Stp
  | [], _, _ => []
  | [t], b, _ => t.lay b
  | t :: u :: l, b, fin => .fork (b + 1) (b + t.size + 2) false :: (t.lay (b + 1) ++ .jump fin :: layAlts (u :: l) (b + t.size + 2) fin)
end
theorem copies_length {f : Nat → List Stp} {n : Nat} (hf : ∀ b, (f b).length = n) : ∀ k b, (copies f n b k).length = k * n
  | 0, _ => by simp [copies]
  | k + 1, b => by rw [copies, List.length_append, hf, copies_length hf k, Nat.succ_mul]; omega
theorem forks_length {f : Nat → List Stp} {n fin : Nat} {lazy : Bool} (hf : ∀ b, (f b).length = n) : ∀ k b, (forks f n fin lazy b k).length = k * (n + 1)
  | 0, _ => by simp [forks]
  | k + 1, b => by rw [forks, List.length_cons, List.length_append, hf, forks_length hf k, Nat.succ_mul]; omega
mutual
theorem Tr.lay_length : ∀ (t : Tr) (b : Nat), (t.lay b).length = t.size
  | .bytes _, _ => rfl
  | .edge _, _ => rfl
  | .group _ t, b => by simp [Tr.lay, Tr.size, t.lay_length]
  | .row l, b => by rw [Tr.lay, Tr.size, layRow_length]
  | .alts l, b => by rw [Tr.lay, Tr.size, layAlts_length]
  | .rep t least most plus lazy, b => by
    cases plus with
    | true => simp [Tr.lay, Tr.size, t.lay_length]
    | false =>
      cases most with
      | none => simp [Tr.lay, Tr.size, copies_length t.lay_length, t.lay_length]; omega
      | some m => simp [Tr.lay, Tr.size, copies_length t.lay_length, forks_length t.lay_length]
theorem layRow_length : ∀ (l : List Tr) (b : Nat), (layRow l b).length = sizes l
  | [], _ => rfl
  | t :: l, b => by rw [layRow, sizes, List.length_append, t.lay_length, layRow_length l]
theorem layAlts_length : ∀ (l : List Tr) (b fin : Nat), (layAlts l b fin).length = sizes l + 2 * (l.length - 1)
  | [], _, _ => rfl
  | [t], b, _ => by simp [layAlts, sizes, t.lay_length]
  | t :: u :: l, b, fin => by
    rw [layAlts, sizes, List.length_cons, List.length_append, t.lay_length, List.length_cons, layAlts_length (u :: l)]
    simp; omega
end

/-- One behind the other, so many times. -/
def Pow (R : Nat → Nat → Prop) : Nat → Nat → Nat → Prop
  | 0, i, j => i = j
  | n + 1, i, j => ∃ k, R i k ∧ Pow R n k j
mutual
/-- The tree fits the bytes of s from i to j. -/
def Tr.Fits (s : List UInt8) : Tr → Nat → Nat → Prop
  | .bytes p, i, j => ∃ c, s[i]? = some c ∧ p c.toNat = true ∧ j = i + 1
  | .edge e, i, j => (if e then i = s.length else i = 0) ∧ i = j
  | .group _ t, i, j => t.Fits s i j
  | .row l, i, j => FitsRow s l i j
  | .alts l, i, j => FitsAny s l i j
  | .rep t least most plus _, i, j => ∃ n, (if plus then 1 ≤ n else least ≤ n ∧ ∀ m, most = some m → n ≤ max least m) ∧ Pow (t.Fits s) n i j
def FitsRow (s : List UInt8) : List Tr → Nat → Nat → Prop
  | [], i, j => i = j
  | t :: l, i, j => ∃ k, t.Fits s i k ∧ FitsRow s l k j
def FitsAny (s : List UInt8) : List Tr → Nat → Nat → Prop
  | [], i, j => i = j
  | [t], i, j => t.Fits s i j
  | t :: u :: l, i, j => t.Fits s i j ∨ FitsAny s (u :: l) i j
end

/-- One step of a machine over s. -/
def Stp1 (prog : List Stp) (s : List UInt8) (pc i pc' i' : Nat) : Prop := ∃ x, prog[pc]? = some x ∧
  ((x.op = 0 ∧ (∃ c, s[i]? = some c ∧ x.inn c.toNat = true) ∧ pc' = pc + 1 ∧ i' = i + 1) ∨
   (x.op = 1 ∧ i = 0 ∧ pc' = pc + 1 ∧ i' = i) ∨ (x.op = 2 ∧ i = s.length ∧ pc' = pc + 1 ∧ i' = i) ∨ (x.op = 3 ∧ pc' = pc + 1 ∧ i' = i) ∨
   (x.op = 4 ∧ pc' = x.first ∧ i' = i) ∨ (x.op = 5 ∧ (pc' = x.first ∨ pc' = x.other) ∧ i' = i))
/-- It comes to (pc', i') in n steps. -/
def Steps (prog : List Stp) (s : List UInt8) : Nat → Nat → Nat → Nat → Nat → Prop
  | 0, pc, i, pc', i' => pc = pc' ∧ i = i'
  | n + 1, pc, i, pc', i' => ∃ q j, Stp1 prog s pc i q j ∧ Steps prog s n q j pc' i'
/-- It comes to the end in n steps. -/
def AccN (prog : List Stp) (s : List UInt8) (fin n pc i : Nat) : Prop := Steps prog s n pc i fin s.length
/-- The steps lie in the machine from b on. -/
def Seg (prog : List Stp) (b : Nat) (l : List Stp) : Prop := ∀ k x, l[k]? = some x → prog[b + k]? = some x
theorem Seg.left {prog b l m} (h : Seg prog b (l ++ m)) : Seg prog b l := fun k x hx => h k x (by rw [List.getElem?_append_left (List.getElem?_eq_some_iff.1 hx).1]; exact hx)
theorem Seg.right {prog b l m} {n : Nat} (h : Seg prog b (l ++ m)) (hn : l.length = n) : Seg prog (b + n) m := fun k x hx => by
  have := h (n + k) x (by rw [List.getElem?_append_right (by omega), hn, Nat.add_sub_cancel_left]; exact hx)
  rwa [← Nat.add_assoc] at this
theorem Seg.head {prog b x l} (h : Seg prog b (x :: l)) : prog[b]? = some x := h 0 x rfl
theorem Seg.tail {prog b x l} (h : Seg prog b (x :: l)) : Seg prog (b + 1) l := fun k y hy => by
  have := h (k + 1) y hy
  rwa [show b + (k + 1) = b + 1 + k by omega] at this

section
variable {prog : List Stp} {s : List UInt8} {fin : Nat}
theorem Stp1.of {pc i pc' i' : Nat} {x : Stp} (h : Stp1 prog s pc i pc' i') (hx : prog[pc]? = some x) :
    (x.op = 0 ∧ (∃ c, s[i]? = some c ∧ x.inn c.toNat = true) ∧ pc' = pc + 1 ∧ i' = i + 1) ∨
   (x.op = 1 ∧ i = 0 ∧ pc' = pc + 1 ∧ i' = i) ∨ (x.op = 2 ∧ i = s.length ∧ pc' = pc + 1 ∧ i' = i) ∨ (x.op = 3 ∧ pc' = pc + 1 ∧ i' = i) ∨
   (x.op = 4 ∧ pc' = x.first ∧ i' = i) ∨ (x.op = 5 ∧ (pc' = x.first ∨ pc' = x.other) ∧ i' = i) := by
  obtain ⟨y, hy, h⟩ := h
  rw [hx] at hy
  cases hy
  exact h
/-- A run from a place that is not the end begins with a step. -/
theorem AccN.step {n pc i : Nat} (h : AccN prog s fin n pc i) (hne : pc ≠ fin) : ∃ m q j, n = m + 1 ∧ Stp1 prog s pc i q j ∧ AccN prog s fin m q j := by
  cases n with
  | zero => exact absurd h.1 hne
  | succ m => obtain ⟨q, j, h1, h2⟩ := h; exact ⟨m, q, j, rfl, h1, h2⟩
theorem AccN.cons {n pc i q j : Nat} (h1 : Stp1 prog s pc i q j) (h : AccN prog s fin n q j) : AccN prog s fin (n + 1) pc i := ⟨q, j, h1, h⟩
/-- What a piece of a machine that lies from b to e does: whoever goes in there and comes to the end, comes out at e, having passed what R says; and every way of R may be gone. -/
def Does (prog : List Stp) (s : List UInt8) (fin : Nat) (b e : Nat) (R : Nat → Nat → Prop) : Prop :=
  (∀ n i, AccN prog s fin n b i → ∃ j m, m ≤ n ∧ R i j ∧ AccN prog s fin m e j) ∧ (∀ i j m, R i j → AccN prog s fin m e j → ∃ n, AccN prog s fin n b i)
theorem does_nil (b : Nat) : Does prog s fin b b (fun i j => i = j) :=
  ⟨fun n i h => ⟨i, n, Nat.le_refl _, rfl, h⟩, fun i j m h1 h2 => ⟨m, by rw [h1]; exact h2⟩⟩
theorem does_seq {b c e : Nat} {R Q : Nat → Nat → Prop} (h1 : Does prog s fin b c R) (h2 : Does prog s fin c e Q) : Does prog s fin b e (fun i j => ∃ k, R i k ∧ Q k j) := by
  refine ⟨fun n i h => ?_, fun i j m ⟨k, hR, hQ⟩ h => ?_⟩
  · obtain ⟨k, m, hm, hR, ha⟩ := h1.1 n i h
    obtain ⟨j, m', hm', hQ, ha'⟩ := h2.1 m k ha
    exact ⟨j, m', Nat.le_trans hm' hm, ⟨k, hR, hQ⟩, ha'⟩
  · obtain ⟨n, hn⟩ := h2.2 k j m hQ h
    exact h1.2 i k n hR hn
theorem Does.congr {b e : Nat} {R Q : Nat → Nat → Prop} (h : Does prog s fin b e R) (hRQ : ∀ i j, R i j ↔ Q i j) : Does prog s fin b e Q := by
  obtain rfl : R = Q := by funext i j; exact propext (hRQ i j)
  exact h
/-- A step that goes on, or not. -/
theorem does_one {b : Nat} {x : Stp} (_hx : prog[b]? = some x) (hne : b ≠ fin) (R : Nat → Nat → Prop) (hR : ∀ i q j, Stp1 prog s b i q j ↔ (q = b + 1 ∧ R i j)) : Does prog s fin b (b + 1) R := by
  refine ⟨fun n i h => ?_, fun i j m h1 h2 => ⟨m + 1, AccN.cons ((hR i _ j).2 ⟨rfl, h1⟩) h2⟩⟩
  obtain ⟨m, q, j, rfl, h1, h2⟩ := h.step hne
  obtain ⟨rfl, hr⟩ := (hR i q j).1 h1
  exact ⟨j, m, by omega, hr, h2⟩
/-- A step that goes to a, whatever comes. -/
theorem acc_jump {b a : Nat} (hx : prog[b]? = some (.jump a)) (hne : b ≠ fin) {n i : Nat} (h : AccN prog s fin n b i) : ∃ m, m < n ∧ AccN prog s fin m a i := by
  obtain ⟨m, q, j, rfl, h1, h2⟩ := h.step hne
  have h3 := h1.of hx
  simp [Stp.jump] at h3
  obtain ⟨rfl, rfl⟩ := h3
  exact ⟨m, by omega, h2⟩
theorem jump_acc {b a : Nat} (hx : prog[b]? = some (.jump a)) {n i : Nat} (h : AccN prog s fin n a i) : AccN prog s fin (n + 1) b i :=
  AccN.cons ⟨_, hx, by simp [Stp.jump]⟩ h
theorem acc_fork {b on by_ : Nat} {lazy : Bool} (hx : prog[b]? = some (.fork on by_ lazy)) (hne : b ≠ fin) {n i : Nat} (h : AccN prog s fin n b i) : ∃ m, m < n ∧ (AccN prog s fin m on i ∨ AccN prog s fin m by_ i) := by
  obtain ⟨m, q, j, rfl, h1, h2⟩ := h.step hne
  have h3 := h1.of hx
  cases lazy <;> simp [Stp.fork] at h3 <;> obtain ⟨h4, rfl⟩ := h3 <;> refine ⟨m, by omega, ?_⟩ <;> rcases h4 with rfl | rfl <;> first | exact .inl h2 | exact .inr h2
theorem fork_acc {b on by_ : Nat} {lazy : Bool} (hx : prog[b]? = some (.fork on by_ lazy)) {n i : Nat} (h : AccN prog s fin n on i ∨ AccN prog s fin n by_ i) : AccN prog s fin (n + 1) b i := by
  rcases h with h | h
  · exact AccN.cons ⟨_, hx, by cases lazy <;> simp [Stp.fork]⟩ h
  · exact AccN.cons ⟨_, hx, by cases lazy <;> simp [Stp.fork]⟩ h
theorem pow_succ' {R : Nat → Nat → Prop} : ∀ {n i k j : Nat}, Pow R n i k → R k j → Pow R (n + 1) i j
  | 0, _, _, _, rfl, h => ⟨_, h, rfl⟩
  | _ + 1, _, _, _, ⟨q, h1, h2⟩, h => ⟨q, h1, pow_succ' h2 h⟩
theorem pow_add {R : Nat → Nat → Prop} : ∀ {n m i k j : Nat}, Pow R n i k → Pow R m k j → Pow R (n + m) i j
  | 0, m, _, _, _, rfl, h => by rw [Nat.zero_add]; exact h
  | n + 1, m, _, _, _, ⟨q, h1, h2⟩, h => by rw [Nat.add_right_comm]; exact ⟨q, h1, pow_add h2 h⟩
theorem pow_split {R : Nat → Nat → Prop} : ∀ {n m i j : Nat}, Pow R (n + m) i j → ∃ k, Pow R n i k ∧ Pow R m k j
  | 0, m, i, j, h => ⟨i, rfl, by rwa [Nat.zero_add] at h⟩
  | n + 1, m, i, j, h => by
    rw [Nat.add_right_comm] at h
    obtain ⟨q, h1, h2⟩ := h
    obtain ⟨k, h3, h4⟩ := pow_split h2
    exact ⟨k, ⟨q, h1, h3⟩, h4⟩
theorem does_copies {f : Nat → List Stp} {n : Nat} {R : Nat → Nat → Prop} (hf : ∀ b, (f b).length = n) (hd : ∀ b, Seg prog b (f b) → b + n ≤ fin → Does prog s fin b (b + n) R) :
    ∀ k b, Seg prog b (copies f n b k) → b + k * n ≤ fin → Does prog s fin b (b + k * n) (Pow R k)
  | 0, b, _, _ => by rw [Nat.zero_mul]; exact does_nil b
  | k + 1, b, hs, hle => by
    rw [copies] at hs
    rw [Nat.succ_mul] at hle ⊢
    have h1 := hd b hs.left (by omega)
    have h2 := does_copies hf hd k (b + n) (hs.right (hf b)) (by omega)
    have h3 := does_seq h1 h2
    rw [show b + n + k * n = b + (k * n + n) by omega] at h3
    exact h3
theorem does_forks {f : Nat → List Stp} {n e : Nat} {lazy : Bool} {R : Nat → Nat → Prop} (hf : ∀ b, (f b).length = n) (hd : ∀ b, Seg prog b (f b) → b + n ≤ fin → Does prog s fin b (b + n) R) (he : e ≤ fin) :
    ∀ k b, Seg prog b (forks f n e lazy b k) → b + k * (n + 1) = e → Does prog s fin b e (fun i j => ∃ q, q ≤ k ∧ Pow R q i j)
  | 0, b, _, hb => by
    rw [Nat.zero_mul, Nat.add_zero] at hb
    subst hb
    exact (does_nil b).congr fun i j => ⟨fun h => ⟨0, Nat.le_refl _, h⟩, fun ⟨q, hq, h⟩ => by obtain rfl : q = 0 := by omega
                                                                                              exact h⟩
  | k + 1, b, hs, hb => by
    rw [forks] at hs
    rw [Nat.succ_mul] at hb
    have h0 := hs.head
    have hne : b ≠ fin := by omega
    have h1 := hd (b + 1) hs.tail.left (by omega)
    have h2 := does_forks hf hd he k (b + 1 + n) (hs.tail.right (hf _)) (by omega)
    have h3 := does_seq h1 h2
    refine ⟨fun m i h => ?_, fun i j m ⟨q, hq, hp⟩ h => ?_⟩
    · obtain ⟨m', hm, h | h⟩ := acc_fork h0 hne h
      · obtain ⟨j, m'', hm', ⟨c, hr, q, hq, hp⟩, ha⟩ := h3.1 m' i h
        exact ⟨j, m'', by omega, ⟨q + 1, by omega, c, hr, hp⟩, ha⟩
      · exact ⟨i, m', by omega, ⟨0, by omega, rfl⟩, h⟩
    · cases q with
      | zero =>
        obtain rfl : i = j := hp
        exact ⟨_, fork_acc h0 (.inr h)⟩
      | succ q =>
        obtain ⟨c, hr, hp⟩ := hp
        obtain ⟨n', hn'⟩ := h3.2 i j m ⟨c, hr, q, by omega, hp⟩ h
        exact ⟨_, fork_acc h0 (.inl hn')⟩
/-- A loop: a fork, the body, a jump back. -/
theorem does_star {n b : Nat} {lazy : Bool} {R : Nat → Nat → Prop} (hd : Does prog s fin (b + 1) (b + 1 + n) R) (h0 : prog[b]? = some (.fork (b + 1) (b + n + 2) lazy)) (hj : prog[b + 1 + n]? = some (.jump b)) (hle : b + n + 2 ≤ fin) :
    Does prog s fin b (b + n + 2) (fun i j => ∃ q, Pow R q i j) := by
  constructor
  · intro m
    induction m using Nat.strongRecOn with
    | ind m ih =>
      intro i h
      obtain ⟨m', hm, h | h⟩ := acc_fork h0 (by omega) h
      · obtain ⟨c, m2, hm2, hr, ha⟩ := hd.1 m' i h
        obtain ⟨m3, hm3, ha⟩ := acc_jump hj (by omega) ha
        obtain ⟨j, m4, hm4, ⟨q, hp⟩, ha⟩ := ih m3 (by omega) c ha
        exact ⟨j, m4, by omega, ⟨q + 1, c, hr, hp⟩, ha⟩
      · exact ⟨i, m', by omega, ⟨0, rfl⟩, h⟩
  · intro i j m ⟨q, hp⟩ h
    induction q generalizing i with
    | zero =>
      obtain rfl : i = j := hp
      exact ⟨_, fork_acc h0 (.inr h)⟩
    | succ q ih =>
      obtain ⟨c, hr, hp⟩ := hp
      obtain ⟨n1, h1⟩ := ih c hp
      obtain ⟨n2, h2⟩ := hd.2 i c _ hr (jump_acc hj h1)
      exact ⟨_, fork_acc h0 (.inl h2)⟩
/-- A body, then a fork back. -/
theorem does_plus {n b : Nat} {lazy : Bool} {R : Nat → Nat → Prop} (hd : Does prog s fin b (b + n) R) (h0 : prog[b + n]? = some (.fork b (b + n + 1) lazy)) (hle : b + n + 1 ≤ fin) :
    Does prog s fin b (b + n + 1) (fun i j => ∃ q, 1 ≤ q ∧ Pow R q i j) := by
  constructor
  · intro m
    induction m using Nat.strongRecOn with
    | ind m ih =>
      intro i h
      obtain ⟨c, m2, hm2, hr, ha⟩ := hd.1 m i h
      obtain ⟨m', hm, h | h⟩ := acc_fork h0 (by omega) ha
      · obtain ⟨j, m4, hm4, ⟨q, hq, hp⟩, ha⟩ := ih m' (by omega) c h
        exact ⟨j, m4, by omega, ⟨q + 1, by omega, c, hr, hp⟩, ha⟩
      · exact ⟨c, m', by omega, ⟨1, Nat.le_refl _, c, hr, rfl⟩, h⟩
  · intro i j m ⟨q, hq, hp⟩ h
    induction q generalizing i with
    | zero => omega
    | succ q ih =>
      obtain ⟨c, hr, hp⟩ := hp
      cases q with
      | zero =>
        obtain rfl : c = j := hp
        exact hd.2 i c _ hr (fork_acc h0 (.inr h))
      | succ q =>
        obtain ⟨n1, h1⟩ := ih c (by omega) hp
        exact hd.2 i c _ hr (fork_acc h0 (.inl h1))
end
section
variable {prog : List Stp} {s : List UInt8} {fin : Nat}
mutual
theorem Tr.does : ∀ (t : Tr) (b : Nat), Seg prog b (t.lay b) → b + t.size ≤ fin → Does prog s fin b (b + t.size) (t.Fits s)
  | .bytes p, b, hs, hle => by
    rw [Tr.lay] at hs
    rw [Tr.size] at hle ⊢
    refine does_one hs.head (by omega) _ fun i q j => ⟨fun h => ?_, fun ⟨hq, hr⟩ => ?_⟩
    · have := h.of hs.head
      simp [Stp.set] at this
      obtain ⟨⟨c, h1, h2⟩, h3, h4⟩ := this
      exact ⟨h3, by rw [Tr.Fits]; exact ⟨c, h1, h2, h4⟩⟩
    · rw [Tr.Fits] at hr
      obtain ⟨c, h1, h2, h3⟩ := hr
      exact ⟨_, hs.head, .inl ⟨rfl, ⟨c, h1, h2⟩, hq, h3⟩⟩
  | .edge e, b, hs, hle => by
    rw [Tr.lay] at hs
    rw [Tr.size] at hle ⊢
    refine does_one hs.head (by omega) _ fun i q j => ⟨fun h => ?_, fun ⟨hq, hr⟩ => ?_⟩
    · have := h.of hs.head
      rw [Tr.Fits]
      cases e <;> simp [Stp.plain] at this <;> obtain ⟨h1, h2, h3⟩ := this <;> exact ⟨h2, h1, h3.symm⟩
    · rw [Tr.Fits] at hr
      refine ⟨_, hs.head, ?_⟩
      cases e <;> simp [Stp.plain] at hr ⊢ <;> exact ⟨hr.1, hq, hr.2.symm⟩
  | .group n t, b, hs, hle => by
    rw [Tr.lay] at hs
    rw [Tr.size] at hle ⊢
    have h1 := does_one (s := s) (fin := fin) hs.head (by omega) (fun i j => i = j) fun i q j => ⟨fun h => by
      have := h.of hs.head
      simp [Stp.mk_] at this
      exact ⟨this.1, this.2.symm⟩, fun ⟨hq, hr⟩ => ⟨_, hs.head, by simp [Stp.mk_]; exact ⟨hq, hr.symm⟩⟩⟩
    have h2 := t.does (b + 1) hs.tail.left (by omega)
    have hh := (hs.tail.right (t.lay_length _)).head
    have h3 := does_one (s := s) (fin := fin) hh (by omega) (fun i j => i = j) fun i q j => ⟨fun h => by
      have := h.of hh
      simp [Stp.mk_] at this
      exact ⟨this.1, this.2.symm⟩, fun ⟨hq, hr⟩ => ⟨_, hh, by simp [Stp.mk_]; exact ⟨hq, hr.symm⟩⟩⟩
    have h4 := does_seq h1 (does_seq h2 h3)
    rw [show b + 1 + t.size + 1 = b + (t.size + 2) by omega] at h4
    refine h4.congr fun i j => ?_
    rw [Tr.Fits]
    exact ⟨fun ⟨k, h5, k', h6, h7⟩ => by subst h5; subst h7; exact h6, fun h => ⟨i, rfl, j, h, rfl⟩⟩
  | .row l, b, hs, hle => by
    rw [Tr.lay] at hs
    rw [Tr.size] at hle ⊢
    exact (row_does l b hs hle).congr fun i j => by rw [Tr.Fits]
  | .alts l, b, hs, hle => by
    rw [Tr.lay] at hs
    rw [Tr.size] at hle ⊢
    exact (alts_does l b _ hs rfl hle).congr fun i j => by rw [Tr.Fits]
  | .rep t least most plus lazy, b, hs, hle => by
    cases plus with
    | true =>
      simp only [Tr.lay, Tr.size, if_true] at hs hle ⊢
      have h1 := t.does b hs.left (by omega)
      have h2 := does_plus h1 (hs.right (t.lay_length _)).head (by omega)
      exact h2.congr fun i j => by rw [Tr.Fits]; simp
    | false =>
      have hd : ∀ b, Seg prog b (t.lay b) → b + t.size ≤ fin → Does prog s fin b (b + t.size) (t.Fits s) := t.does
      have hcl : (copies t.lay t.size b least).length = least * t.size := copies_length t.lay_length _ _
      cases most with
      | none =>
        simp only [Tr.lay, Tr.size, Bool.false_eq_true, if_false] at hs hle ⊢
        have h1 := does_copies t.lay_length hd least b hs.left (by omega)
        have hr := hs.right hcl
        have h2 := t.does _ hr.tail.left (by omega)
        have hj := (hr.tail.right (t.lay_length _)).head
        have h3 := does_star h2 hr.head hj (by omega)
        have h4 := does_seq h1 h3
        rw [show b + least * t.size + t.size + 2 = b + (least * t.size + t.size + 2) by omega] at h4
        refine h4.congr fun i j => ?_
        rw [Tr.Fits]
        simp only [Bool.false_eq_true, if_false]
        constructor
        · rintro ⟨k, h5, q, h6⟩
          exact ⟨least + q, ⟨by omega, by simp⟩, pow_add h5 h6⟩
        · rintro ⟨n, ⟨h5, _⟩, h6⟩
          obtain ⟨q, rfl⟩ : ∃ q, n = least + q := ⟨n - least, by omega⟩
          obtain ⟨k, h7, h8⟩ := pow_split h6
          exact ⟨k, h7, q, h8⟩
      | some m =>
        simp only [Tr.lay, Tr.size, Bool.false_eq_true, if_false] at hs hle ⊢
        have h1 := does_copies t.lay_length hd least b hs.left (by omega)
        have hr := hs.right hcl
        have h3 := does_forks t.lay_length hd (e := b + least * t.size + (m - least) * (t.size + 1)) (by omega) (m - least) _ hr rfl
        have h4 := does_seq h1 h3
        rw [Nat.add_assoc] at h4
        refine h4.congr fun i j => ?_
        rw [Tr.Fits]
        simp only [Bool.false_eq_true, if_false]
        constructor
        · rintro ⟨k, h5, q, hq, h6⟩
          refine ⟨least + q, ⟨by omega, fun m' hm => ?_⟩, pow_add h5 h6⟩
          cases hm
          omega
        · rintro ⟨n, ⟨h5, h9⟩, h6⟩
          have := h9 m rfl
          obtain ⟨q, rfl⟩ : ∃ q, n = least + q := ⟨n - least, by omega⟩
          obtain ⟨k, h7, h8⟩ := pow_split h6
          exact ⟨k, h7, q, by omega, h8⟩
theorem row_does : ∀ (l : List Tr) (b : Nat), Seg prog b (layRow l b) → b + sizes l ≤ fin → Does prog s fin b (b + sizes l) (FitsRow s l)
  | [], b, _, _ => by rw [sizes]; exact (does_nil b).congr fun i j => by rw [FitsRow]
  | t :: l, b, hs, hle => by
    rw [layRow] at hs
    rw [sizes] at hle ⊢
    have h1 := t.does b hs.left (by omega)
    have h2 := row_does l (b + t.size) (hs.right (t.lay_length _)) (by omega)
    have h3 := does_seq h1 h2
    rw [Nat.add_assoc] at h3
    exact h3.congr fun i j => by rw [FitsRow]
theorem alts_does : ∀ (l : List Tr) (b e : Nat), Seg prog b (layAlts l b e) → b + (sizes l + 2 * (l.length - 1)) = e → e ≤ fin → Does prog s fin b e (FitsAny s l)
  | [], b, e, _, he, _ => by
    obtain rfl : b = e := by rw [sizes] at he; simpa using he
    exact (does_nil b).congr fun i j => by rw [FitsAny]
  | [t], b, e, hs, he, hle => by
    rw [layAlts] at hs
    obtain rfl : b + t.size = e := by simp [sizes] at he; exact he
    exact (t.does b hs hle).congr fun i j => by rw [FitsAny]
  | t :: u :: l, b, e, hs, he, hle => by
    rw [layAlts] at hs
    rw [sizes] at he
    simp only [List.length_cons] at he
    have h0 := hs.head
    have h1 := t.does (b + 1) hs.tail.left (by omega)
    have hr := hs.tail.right (t.lay_length _)
    have h2 := alts_does (u :: l) (b + t.size + 2) e (by have := hr.tail; rwa [show b + 1 + t.size + 1 = b + t.size + 2 by omega] at this) (by simp only [List.length_cons]; omega) hle
    refine ⟨fun n i h => ?_, fun i j m hR h => ?_⟩
    · obtain ⟨m, hm, h | h⟩ := acc_fork h0 (by omega) h
      · obtain ⟨j, m2, hm2, hr2, ha⟩ := h1.1 m i h
        obtain ⟨m3, hm3, ha⟩ := acc_jump hr.head (by omega) ha
        exact ⟨j, m3, by omega, by rw [FitsAny]; exact .inl hr2, ha⟩
      · obtain ⟨j, m2, hm2, hr2, ha⟩ := h2.1 m i h
        exact ⟨j, m2, by omega, by rw [FitsAny]; exact .inr hr2, ha⟩
    · rw [FitsAny] at hR
      rcases hR with hR | hR
      · obtain ⟨n, hn⟩ := h1.2 i j _ hR (jump_acc hr.head h)
        exact ⟨_, fork_acc h0 (.inl hn)⟩
      · obtain ⟨n, hn⟩ := h2.2 i j m hR h
        exact ⟨_, fork_acc h0 (.inr hn)⟩
end
end
/-- The machine of a tree. -/
def machine (t : Tr) : List Stp := t.lay 0 ++ [.plain 6]
theorem machine_accepts (t : Tr) (s : List UInt8) : (∃ n, AccN (machine t) s t.size n 0 0) ↔ t.Fits s 0 s.length := by
  have hs : Seg (machine t) 0 (t.lay 0) := by
    intro k x hx
    unfold machine
    rw [Nat.zero_add, List.getElem?_append_left (List.getElem?_eq_some_iff.1 hx).1]
    exact hx
  have hd := t.does (s := s) (fin := t.size) 0 hs (by omega)
  have hf : (machine t)[t.size]? = some (.plain 6) := by
    unfold machine
    rw [List.getElem?_append_right (by rw [t.lay_length]; exact Nat.le_refl _), t.lay_length, Nat.sub_self]
    rfl
  constructor
  · rintro ⟨n, h⟩
    obtain ⟨j, m, _, hr, ha⟩ := hd.1 n 0 h
    rw [Nat.zero_add] at ha
    cases m with
    | zero => rw [ha.2] at hr; exact hr
    | succ m =>
      obtain ⟨q, j', h1, _⟩ := ha
      have := h1.of hf
      simp [Stp.plain] at this
  · intro h
    exact hd.2 0 s.length 0 h (by rw [Nat.zero_add]; exact ⟨rfl, rfl⟩)
end Go.Proofs.YtamlnkmcbbeicaaDoor.RX
