/- Lists in memory of their own, and what an owner's marks do to them: plain facts about worlds for the own* functions of the checker's book. -/
import Derived.Test.YtajaijidecomdaaGreatDoorG00
namespace Go.Proofs.YtajaijidecomdaaGreatDoor
open Go.RowKit Go.Lib

theorem take_set_next {α : Type} (xs : List α) (o : Nat) (a : α) (h : o < xs.length) : (xs.set o a).take (o + 1) = xs.take o ++ [a] := by
  rw [List.take_succ_eq_append_getElem (by simpa using h), List.take_set_of_le (Nat.le_refl _)]
  simp

/-- The marks of list i, the first n elements. -/
def marks (f : Int → Nat → List Value) (i : Int) (n : Nat) : List Value := (List.range n).flatMap (f i)
theorem marks_zero (f : Int → Nat → List Value) (i : Int) : marks f i 0 = [] := rfl
theorem marks_succ (f : Int → Nat → List Value) (i : Int) (n : Nat) : marks f i (n + 1) = marks f i n ++ f i n := by
  unfold marks
  rw [List.range_succ, List.flatMap_append]
  simp
section
variable {f : Int → Nat → List Value} {sz : Nat} (hf : ∀ i k, (f i k).length = sz)
include hf
theorem marks_length (i : Int) (n : Nat) : (marks f i n).length = n * sz := by
  induction n with
  | zero => simp [marks]
  | succ n ih => rw [marks_succ, List.length_append, ih, hf, Nat.succ_mul]
theorem marks_at (i : Int) (n k j : Nat) (u : Value) (hk : k < n) (hu : (f i k)[j]? = some u) : (marks f i n)[k * sz + j]? = some u := by
  induction n with
  | zero => omega
  | succ n ih =>
    have hj : j < sz := by have := (List.getElem?_eq_some_iff.1 hu).1; rwa [hf] at this
    rw [marks_succ]
    by_cases h : k < n
    · rw [List.getElem?_append_left (by rw [marks_length hf]; have : (k + 1) * sz ≤ n * sz := Nat.mul_le_mul_right _ h; rw [Nat.succ_mul] at this; omega)]
      exact ih h
    · obtain rfl : k = n := by omega
      rw [List.getElem?_append_right (by rw [marks_length hf]; omega), marks_length hf, Nat.add_sub_cancel_left]
      exact hu
end

/-- The list of lists lies in block BL; each is a row of the call's own; no two share memory. -/
structure Lists (w : World) (B : Nat) (e : TypeId) (sz BL m : Nat) (V : Nat → Value) (N : Nat → Nat) : Prop where
  row : ∀ j, j < m → w.cell? ⟨BL, j, none⟩ = some (V j)
  own : ∀ j, j < m → ∃ xs, w.ownsRow B e sz (V j) (N j) xs
  apart : ∀ i j, i < m → j < m → i ≠ j → ∀ g, (V i).ownBlock = some g → (V j).ownBlock ≠ some g
  off : ∀ j, j < m → (V j).ownBlock ≠ some BL
/-- The blocks of those lists. -/
def Among (m : Nat) (V : Nat → Value) (k : Nat) : Prop := ∃ j, j < m ∧ (V j).ownBlock = some k
theorem owns_slice {w : World} {B : Nat} {e : TypeId} {sz n : Nat} {v : Value} {xs : List Value} (h : w.ownsRow B e sz v n xs) : ∃ A c, v = .slice A n c ∧ n ≤ c ∧ c ≤ maxLen := by
  rcases h.2 with ⟨rfl, rfl⟩ | ⟨g, cap, cur, rfl, _, _, h1, h2, _⟩
  · exact ⟨none, 0, rfl, Nat.le_refl _, Nat.zero_le _⟩
  · exact ⟨_, cap, rfl, h1, h2⟩
section
variable {w0 w wo wz wr : World} {B sz BL m : Nat} {e : TypeId} {V : Nat → Value} {N : Nat → Nat} {f : Int → Nat → List Value}
theorem Lists.slice (h : Lists w B e sz BL m V N) {j : Nat} (hj : j < m) : ∃ A c, V j = .slice A (N j) c ∧ N j ≤ c ∧ c ≤ maxLen := by
  obtain ⟨xs, hx⟩ := h.own j hj
  exact owns_slice hx
theorem Lists.lt (h : Lists w B e sz BL m V N) {j g : Nat} (hj : j < m) (hg : (V j).ownBlock = some g) : B ≤ g ∧ g < w.heap.size := by
  obtain ⟨xs, hx⟩ := h.own j hj
  exact hx.lt g hg
/-- The lists are still there in a world that has turned at one list's row, and owns it still. -/
theorem Lists.turn (h : Lists wo B e sz BL m V N) {k : Nat} (hk : k < m) (hg : wo.grownBy wz (V k).ownBlock) {xs : List Value} (hx : wz.ownsRow B e sz (V k) (N k) xs) : Lists wz B e sz BL m V N where
  row j hj := (World.cell?_of_block (w := wo) (hg.block BL (World.block_lt_of_cell? wo _ (h.row j hj)) (fun e => h.off k hk e.symm))).trans (h.row j hj)
  own j hj := by
    by_cases hjk : j = k
    · subst hjk; exact ⟨xs, hx⟩
    · obtain ⟨ys, hy⟩ := h.own j hj
      refine ⟨ys, hy.kept hg ?_⟩
      cases hv : (V j).ownBlock with
      | none => exact .inl rfl
      | some g => exact .inr fun e => h.apart j k hj hk hjk g hv e.symm
  apart := h.apart
  off := h.off
/-- The first loop's head: the first k lists bear their marks. -/
structure Marked (f : Int → Nat → List Value) (w0 w : World) (B : Nat) (e : TypeId) (sz BL m : Nat) (V : Nat → Value) (N : Nat → Nat) (k : Nat) : Prop where
  lists : Lists w B e sz BL m V N
  kept : GrownIn (Among m V) w0 w
  done : ∀ j : Nat, j < k → j < m → w.ownsRow B e sz (V j) (N j) (marks f j (N j))
theorem Marked.start (h : Lists w B e sz BL m V N) : Marked f w w B e sz BL m V N 0 := ⟨h, GrownIn.refl _ _, fun _ h => absurd h (by omega)⟩
theorem Marked.step {k : Nat} (h : Marked f w0 wo B e sz BL m V N k) (hk : k < m) (hg : wo.grownBy wz (V k).ownBlock) (hx : wz.ownsRow B e sz (V k) (N k) (marks f k (N k))) : Marked f w0 wz B e sz BL m V N (k + 1) where
  lists := h.lists.turn hk hg hx
  kept := h.kept.trans (GrownIn.of_grownBy hg) (fun b _ hb => ⟨k, hk, hb⟩)
  done j hj hm := by
    by_cases hjk : j = k
    · subst hjk; exact hx
    · refine (h.done j (by omega) hm).kept hg ?_
      cases hv : (V j).ownBlock with
      | none => exact .inl rfl
      | some g => exact .inr fun e => h.lists.apart j k hm hk hjk g hv e.symm
/-- Within list k: the first q elements bear their marks. -/
def Marking (f : Int → Nat → List Value) (wo w : World) (B : Nat) (e : TypeId) (sz : Nat) (v : Value) (n : Nat) (i : Int) (q : Nat) : Prop :=
  wo.grownBy w v.ownBlock ∧ ∃ xs, w.ownsRow B e sz v n xs ∧ xs.take (q * sz) = marks f i q
theorem grownBy_refl (w : World) (r : Option Nat) : w.grownBy w r := ⟨rfl, rfl, rfl, Nat.le_refl _, fun _ _ _ => rfl⟩
theorem grownBy_trans {a w w' : World} {r : Option Nat} (h : a.grownBy w r) (g : w.grownBy w' r) : a.grownBy w' r :=
  ⟨g.os.trans h.os, g.tape.trans h.tape, g.output.trans h.output, Nat.le_trans h.size g.size, fun k hk hn => (g.block k (Nat.lt_of_lt_of_le hk h.size) hn).trans (h.block k hk hn)⟩
theorem grownBy_below {a w w' : World} {r : Option Nat} (h : a.grownBy w r) (g : Below w.heap.size w w') : a.grownBy w' r :=
  ⟨g.os.trans h.os, g.tape.trans h.tape, g.output.trans h.output, Nat.le_trans h.size g.size, fun k hk hn => (g.block k (Nat.lt_of_lt_of_le hk h.size)).trans (h.block k hk hn)⟩
theorem owns_below {a w' : World} {n : Nat} {v : Value} {xs : List Value} (h : a.ownsRow B e sz v n xs) (g : Below a.heap.size a w') : w'.ownsRow B e sz v n xs :=
  h.kept (row := none) ⟨g.os, g.tape, g.output, g.size, fun k hk _ => g.block k hk⟩ (by cases v.ownBlock <;> simp)
theorem Marking.start {v : Value} {n : Nat} {i : Int} {xs : List Value} (hx : wo.ownsRow B e sz v n xs) : Marking f wo wo B e sz v n i 0 := ⟨grownBy_refl _ _, xs, hx, by simp [marks]⟩
theorem Marking.below {v : Value} {n : Nat} {i : Int} {q : Nat} (h : Marking f wo w B e sz v n i q) (hb : Below w.heap.size w wz) : Marking f wo wz B e sz v n i q := by
  obtain ⟨h1, xs, h2, h3⟩ := h
  exact ⟨grownBy_below h1 hb, xs, owns_below h2 hb, h3⟩
theorem Marking.end_ {v : Value} {n : Nat} {i : Int} (h : Marking f wo w B e sz v n i n) : wo.grownBy w v.ownBlock ∧ w.ownsRow B e sz v n (marks f i n) := by
  obtain ⟨h1, xs, h2, h3⟩ := h
  refine ⟨h1, ?_⟩
  rw [← h3, List.take_of_length_le (by rw [h2.1]; exact Nat.le_refl _)]
  exact h2
/-- One element of one cell. -/
theorem Marking.next1 {g n cap : Nat} {i : Int} {q : Nat} {u : Value} (h : Marking f wo w B e 1 (.slice (some ⟨g, 0, none⟩) n cap) n i q) (hq : q < n) (hu : f i q = [u]) :
    Marking f wo (w.setCell ⟨g, q, none⟩ u) B e 1 (.slice (some ⟨g, 0, none⟩) n cap) n i (q + 1) := by
  obtain ⟨h1, xs, h2, h3⟩ := h
  obtain ⟨h4, h5⟩ := h2.stored q u
  refine ⟨grownBy_trans h1 h5, _, h4, ?_⟩
  rw [Nat.mul_one] at h3 ⊢
  rw [take_set_next _ _ _ (by rw [h2.1]; omega), h3, marks_succ, hu]
/-- One element of two cells. -/
theorem Marking.next2 {g n cap : Nat} {i : Int} {q : Nat} {u v : Value} (h : Marking f wo w B e 2 (.slice (some ⟨g, 0, none⟩) n cap) n i q) (hq : q < n) (hu : f i q = [u, v]) :
    Marking f wo ((w.setCell ⟨g, q * 2, none⟩ u).setCell ⟨g, q * 2 + 1, none⟩ v) B e 2 (.slice (some ⟨g, 0, none⟩) n cap) n i (q + 1) := by
  obtain ⟨h1, xs, h2, h3⟩ := h
  obtain ⟨h4, h5⟩ := h2.stored (q * 2) u
  obtain ⟨h6, h7⟩ := h4.stored (q * 2 + 1) v
  refine ⟨grownBy_trans (grownBy_trans h1 h5) h7, _, h6, ?_⟩
  rw [show (q + 1) * 2 = q * 2 + 1 + 1 by omega, take_set_next _ _ _ (by rw [List.length_set, h2.1]; omega), take_set_next _ _ _ (by rw [h2.1]; omega), h3, marks_succ, hu]
  simp

/-- The second loop's head: the first q lists have grown by p marks each, and lie as the list lv. -/
structure Longer (f : Int → Nat → List Value) (p : Nat) (w0 w2 w : World) (B : Nat) (e : TypeId) (sz BL m : Nat) (V : Nat → Value) (N : Nat → Nat) (eS : TypeId) (q : Nat) (lv : Value) (Ls : List Value) : Prop where
  len : Ls.length = q
  own : w.ownsRow B eS 1 lv q Ls
  each : ∀ (j : Nat) x, Ls[j]? = some x → w.ownsRow B e sz x (N j + p) (marks f j (N j) ++ marks f (-1 - (j : Int)) p) ∧ (x.ownBlock = (V j).ownBlock ∨ ∃ g, x.ownBlock = some g ∧ w2.heap.size ≤ g)
  apart : ∀ (i j : Nat) x y, i ≠ j → Ls[i]? = some x → Ls[j]? = some y → ∀ g, x.ownBlock = some g → y.ownBlock ≠ some g
  alone : ∀ (j : Nat) x, Ls[j]? = some x → ∀ g, lv.ownBlock = some g → x.ownBlock ≠ some g
  new : ∀ g, lv.ownBlock = some g → w2.heap.size ≤ g
  rest : ∀ j : Nat, q ≤ j → j < m → w.ownsRow B e sz (V j) (N j) (marks f j (N j))
  cells : ∀ j : Nat, j < m → ∀ g, (V j).ownBlock = some g → ∀ t u, (marks f j (N j))[t]? = some u → w.cell? ⟨g, t, none⟩ = some u
  row : ∀ j, j < m → w.cell? ⟨BL, j, none⟩ = some (V j)
  kept : GrownIn (Among m V) w0 w
  size : w2.heap.size ≤ w.heap.size
theorem owns_cell {g n : Nat} {v : Value} {xs : List Value} (h : w.ownsRow B e sz v n xs) (hg : v.ownBlock = some g) {t : Nat} {u : Value} (hu : xs[t]? = some u) : w.cell? ⟨g, t, none⟩ = some u := by
  have := h.cells hg t u hu
  rwa [show (⟨g, 0, none⟩ : Addr).add t = ⟨g, t, none⟩ by unfold Addr.add; split <;> simp_all] at this
theorem Longer.start (p : Nat) (eS : TypeId) (h : Marked f w0 w B e sz BL m V N m) : Longer f p w0 w w B e sz BL m V N eS 0 (.slice none 0 0) [] where
  len := rfl
  own := World.ownsRow_nil _ _ _ _
  each _ _ h := by simp at h
  apart _ _ _ _ _ h := by simp at h
  alone _ _ h := by simp at h
  new _ h := by cases h
  rest j _ hj := h.done j hj hj
  cells j hj _ hg _ _ hu := owns_cell (h.done j hj hj) hg hu
  row := h.lists.row
  kept := h.kept
  size := Nat.le_refl _
/-- Within list q: it has grown by p marks so far. -/
structure Growing (f : Int → Nat → List Value) (wo w : World) (B : Nat) (e : TypeId) (sz : Nat) (v : Value) (n : Nat) (i : Int) (p : Nat) (x : Value) : Prop where
  own : w.ownsRow B e sz x (n + p) (marks f i n ++ marks f (-1 - i) p)
  lies : x.ownBlock = v.ownBlock ∨ ∃ g, x.ownBlock = some g ∧ wo.heap.size ≤ g
  kept : wo.grownBy w v.ownBlock
  cells : ∀ g, v.ownBlock = some g → ∀ t u, (marks f i n)[t]? = some u → w.cell? ⟨g, t, none⟩ = some u
theorem Growing.start {v : Value} {n : Nat} {i : Int} (h : w.ownsRow B e sz v n (marks f i n)) : Growing f w w B e sz v n i 0 v :=
  ⟨by simpa [marks] using h, .inl rfl, grownBy_refl _ _, fun _ hg _ _ hu => owns_cell h hg hu⟩
theorem Growing.below {v x : Value} {n p : Nat} {i : Int} (h : Growing f wo w B e sz v n i p x) (hb : Below w.heap.size w wz) : Growing f wo wz B e sz v n i p x :=
  ⟨owns_below h.own hb, h.lies, grownBy_below h.kept hb, fun g hg t u hu => (hb.cell (World.block_lt_of_cell? w _ (h.cells g hg t u hu))).trans (h.cells g hg t u hu)⟩
theorem Growing.next {v x : Value} {n p : Nat} {i : Int} (h : Growing f wo w B e sz v n i p x) {g cap : Nat}
    (hown : wz.ownsRow B e sz (.slice (some ⟨g, 0, none⟩) (n + p + 1) cap) (n + p + 1) ((marks f i n ++ marks f (-1 - i) p) ++ f (-1 - i) p)) (hg : w.grownBy wz x.ownBlock)
    (hlies : x.ownBlock = some g ∨ g = w.heap.size) (hold : ∀ k, x.ownBlock = some k → ∀ j u, (marks f i n ++ marks f (-1 - i) p)[j]? = some u → wz.cell? ⟨k, j, none⟩ = some u) :
    Growing f wo wz B e sz v n i (p + 1) (.slice (some ⟨g, 0, none⟩) (n + (p + 1)) cap) where
  own := by rw [marks_succ, ← List.append_assoc, ← Nat.add_assoc]; exact hown
  lies := by
    rcases hlies with h1 | h1
    · rcases h.lies with h2 | ⟨k, h2, h3⟩
      · left; rw [← h2, h1]; rfl
      · right; exact ⟨g, rfl, by rw [h1] at h2; injection h2 with h2; omega⟩
    · right; exact ⟨g, rfl, by rw [h1]; exact h.kept.size⟩
  kept := by
    refine ⟨hg.os.trans h.kept.os, hg.tape.trans h.kept.tape, hg.output.trans h.kept.output, Nat.le_trans h.kept.size hg.size, fun k hk hn => ?_⟩
    refine (hg.block k (Nat.lt_of_lt_of_le hk h.kept.size) fun e => ?_).trans (h.kept.block k hk hn)
    rcases h.lies with h2 | ⟨b, h2, h3⟩
    · exact hn (e.trans h2)
    · rw [h2] at e; injection e with e; omega
  cells b hb t u hu := by
    by_cases hx : x.ownBlock = some b
    · exact hold b hx t u (by rw [List.getElem?_append_left (List.getElem?_eq_some_iff.1 hu).1]; exact hu)
    · have hc := h.cells b hb t u hu
      exact (World.cell?_of_block (w := w) (hg.block b (World.block_lt_of_cell? w _ hc) (fun e => hx e.symm))).trans hc
/-- List q has grown; the list of the grown ones takes it in. -/
theorem Longer.step {p q : Nat} {w2 : World} {lv x : Value} {Ls : List Value} {eS : TypeId} (h : Longer f p w0 w2 wo B e sz BL m V N eS q lv Ls) (hL : Lists w2 B e sz BL m V N) (hoff : BL < w2.heap.size) (h02 : w0.heap.size ≤ w2.heap.size) (hq : q < m)
    (hG : Growing f wo w B e sz (V q) (N q) q p x) (hp : 0 < p) {g cap : Nat} {wa : World} (hal : Below w.heap.size w wa)
    (hown : wz.ownsRow B eS 1 (.slice (some ⟨g, 0, none⟩) (q + 1) cap) (q + 1) (Ls ++ [x])) (hg : wa.grownBy wz lv.ownBlock) (hlies : lv.ownBlock = some g ∨ g = wa.heap.size) :
    Longer f p w0 w2 wz B e sz BL m V N eS (q + 1) (.slice (some ⟨g, 0, none⟩) (q + 1) cap) (Ls ++ [x]) := by
  have hVlt : ∀ j, j < m → ∀ b, (V j).ownBlock = some b → b < w2.heap.size := fun j hj b hb => (hL.lt hj hb).2
  have hlvlt : ∀ b, lv.ownBlock = some b → b < wo.heap.size := fun b hb => (h.own.lt b hb).2
  have hwo : w2.heap.size ≤ wo.heap.size := h.size
  have hwsz : wo.heap.size ≤ w.heap.size := hG.kept.size
  have hasz : w.heap.size ≤ wa.heap.size := hal.size
  -- blocks of wo, but list q's and lv's, are as they were
  have hblk : ∀ b, b < wo.heap.size → some b ≠ (V q).ownBlock → some b ≠ lv.ownBlock → wz.heap[b]? = wo.heap[b]? := fun b hb h1 h2 =>
    ((hg.block b (by omega) h2).trans (hal.block b (by omega))).trans (hG.kept.block b hb h1)
  -- the grown list's block
  obtain ⟨xb, xc, hx⟩ : ∃ xb xc, x = .slice (some ⟨xb, 0, none⟩) (N q + p) xc := by
    obtain ⟨gb, cc, hv, _, _⟩ := hG.own.form (by omega)
    exact ⟨gb, cc, hv⟩
  have hxown : x.ownBlock = some xb := by rw [hx]; rfl
  have hxlt : xb < w.heap.size := (hG.own.lt xb hxown).2
  have hxlv : ∀ b, lv.ownBlock = some b → xb ≠ b := by
    intro b hb e
    subst e
    have h1 := h.new xb hb
    have h2 := hlvlt xb hb
    rcases hG.lies with h3 | ⟨k, h3, h4⟩
    · have := hVlt q hq xb (by rw [← h3, hxown])
      omega
    · rw [hxown] at h3; injection h3 with h3; omega
  have hxz : wz.ownsRow B e sz x (N q + p) (marks f q (N q) ++ marks f (-1 - (q : Int)) p) := by
    refine (owns_below hG.own hal).kept hg ?_
    right
    rw [hxown]
    intro e
    exact hxlv xb e.symm rfl
  have hgne : xb ≠ g := by
    rcases hlies with h1 | h1
    · exact hxlv g h1
    · omega
  have each' : ∀ (j : Nat) y, Ls[j]? = some y → wz.ownsRow B e sz y (N j + p) (marks f j (N j) ++ marks f (-1 - (j : Int)) p) := by
    intro j y hy
    have hjq : j < q := by have := (List.getElem?_eq_some_iff.1 hy).1; rw [h.len] at this; exact this
    obtain ⟨h1, h2⟩ := h.each j y hy
    have hyq : y.ownBlock ≠ (V q).ownBlock ∨ y.ownBlock = none := by
      cases hv : y.ownBlock with
      | none => exact .inr rfl
      | some b =>
        left
        intro e
        have hbq := hVlt q hq b e.symm
        rcases h2 with h2 | ⟨k, h2, h3⟩
        · exact hL.apart j q (by omega) hq (by omega) b (by rw [← h2, hv]) e.symm
        · rw [hv] at h2; injection h2 with h2; omega
    have e1 : w.ownsRow B e sz y (N j + p) (marks f j (N j) ++ marks f (-1 - (j : Int)) p) := h1.kept hG.kept hyq.symm
    refine (owns_below e1 hal).kept hg ?_
    cases hv : y.ownBlock with
    | none => exact .inl rfl
    | some b => exact .inr fun e => h.alone j y hy b e.symm hv
  have at_ : ∀ (j : Nat) y, (Ls ++ [x])[j]? = some y → Ls[j]? = some y ∨ (j = q ∧ y = x) := by
    intro j y hy
    by_cases hj : j < Ls.length
    · left; rwa [List.getElem?_append_left hj] at hy
    · right
      have hj2 := (List.getElem?_eq_some_iff.1 hy).1
      rw [List.length_append, List.length_singleton] at hj2
      have hj3 : j = Ls.length := by omega
      rw [hj3, List.getElem?_append_right (Nat.le_refl _), Nat.sub_self] at hy
      exact ⟨by rw [hj3, h.len], by simpa using hy.symm⟩
  -- an old grown list and the new one
  have new_old : ∀ (j : Nat) y, Ls[j]? = some y → ∀ b, y.ownBlock = some b → b ≠ xb := by
    intro j y hy b hb e
    subst e
    have hjq : j < q := by have := (List.getElem?_eq_some_iff.1 hy).1; rw [h.len] at this; exact this
    obtain ⟨h1, h2⟩ := h.each j y hy
    have hblt : b < wo.heap.size := (h1.lt b hb).2
    rcases hG.lies with h3 | ⟨k, h3, h4⟩
    · rw [hxown] at h3
      rcases h2 with h2 | ⟨k, h2, h4⟩
      · exact hL.apart j q (by omega) hq (by omega) b (by rw [← h2, hb]) h3.symm
      · rw [hb] at h2; injection h2 with h2
        have := hVlt q hq b h3.symm
        omega
    · rw [hxown] at h3; injection h3 with h3; omega
  refine ⟨by rw [List.length_append, h.len]; rfl, hown, ?_, ?_, ?_, ?_, ?_, ?_, ?_, ?_, ?_⟩
  · intro j y hy
    rcases at_ j y hy with h1 | ⟨rfl, rfl⟩
    · exact ⟨each' j y h1, (h.each j y h1).2⟩
    · refine ⟨hxz, ?_⟩
      rcases hG.lies with h3 | ⟨k, h3, h4⟩
      · exact .inl h3
      · exact .inr ⟨k, h3, by omega⟩
  · intro i j y z hij hy hz b hb hb'
    rcases at_ i y hy with h1 | ⟨rfl, rfl⟩ <;> rcases at_ j z hz with h2 | ⟨rfl, rfl⟩
    · exact h.apart i j y z hij h1 h2 b hb hb'
    · rw [hxown] at hb'; injection hb' with hb'; exact new_old i y h1 b hb hb'.symm
    · rw [hxown] at hb; injection hb with hb; exact new_old j z h2 b hb' hb.symm
    · exact hij rfl
  · intro j y hy b hb hb'
    obtain rfl : g = b := by simpa [Value.ownBlock] using hb
    rcases at_ j y hy with h1 | ⟨rfl, rfl⟩
    · rcases hlies with h2 | h2
      · exact h.alone j y h1 g h2 hb'
      · have := ((h.each j y h1).1.lt g hb').2; omega
    · rw [hxown] at hb'; injection hb' with hb'; exact hgne hb'
  · intro b hb
    obtain rfl : g = b := by simpa [Value.ownBlock] using hb
    rcases hlies with h2 | h2
    · exact h.new g h2
    · omega
  · intro j hj hjm
    have h1 := h.rest j (by omega) hjm
    have hjq : j ≠ q := by omega
    have h2 : w.ownsRow B e sz (V j) (N j) (marks f j (N j)) := h1.kept hG.kept (by
      cases hv : (V j).ownBlock with
      | none => exact .inl rfl
      | some b => exact .inr fun e => hL.apart j q hjm hq hjq b hv e.symm)
    refine (owns_below h2 hal).kept hg ?_
    cases hv : (V j).ownBlock with
    | none => exact .inl rfl
    | some b => exact .inr fun e => by have := h.new b e.symm; have := hVlt j hjm b hv; omega
  · intro j hj b hb t u hu
    have hbV := hVlt j hj b hb
    have hblv : some b ≠ lv.ownBlock := fun e => by have := h.new b e.symm; omega
    by_cases hjq : j = q
    · subst hjq
      have hc := hG.cells b hb t u hu
      have hc2 := (hal.cell (p := ⟨b, t, none⟩) (World.block_lt_of_cell? w _ hc)).trans hc
      exact (World.cell?_of_block (w := wa) (hg.block b (World.block_lt_of_cell? wa _ hc2) hblv)).trans hc2
    · have hc := h.cells j hj b hb t u hu
      exact (World.cell?_of_block (w := wo) (hblk b (by omega) (fun e => hL.apart j q hj hq hjq b hb e.symm) hblv)).trans hc
  · intro j hj
    have hc := h.row j hj
    exact (World.cell?_of_block (w := wo) (hblk BL (by omega) (fun e => hL.off q hq e.symm) (fun e => by have := h.new BL e.symm; omega))).trans hc
  · refine ⟨?_, ?_, ?_, by have := h.kept.size; have := hg.size; omega, fun k hk hn => ?_⟩
    · exact ((hg.os.trans hal.os).trans hG.kept.os).trans h.kept.os
    · exact ((hg.tape.trans hal.tape).trans hG.kept.tape).trans h.kept.tape
    · exact ((hg.output.trans hal.output).trans hG.kept.output).trans h.kept.output
    · have hk0 := h.kept.size
      by_cases hlk : some k = lv.ownBlock
      · have := h.new k hlk.symm
        omega
      · exact (hblk k (by omega) (fun e => hn ⟨q, hq, e.symm⟩) hlk).trans (h.kept.block k hk hn)
  · have := hg.size; omega
end
end Go.Proofs.YtajaijidecomdaaGreatDoor
