/- Lists of samples that are lent out, each in memory of its own. -/
import Derived.Test.YtglafbfbgjihbaaWholeSample
import Derived.Test.YtglafbfbgjihbaaLine
import Derived.Test.YtglafbfbgjihbaaBookKit
namespace Go.Proofs.Ytglafbfbgjihbaa
open Go.RowKit Go.Lib

/-- A lent list: its block, its length, its capacity. -/
def valS (x : Nat × Nat × Nat) : Value := .slice (some ⟨x.1, 0, none⟩) x.2.1 x.2.2
/-- The lent row of a list. -/
def LentRow (w : World) (B : Nat) (x : Nat × Nat × Nat) (xs : List (Int × Int)) : Prop :=
  x.2.1 = xs.length ∧ w.ownsRow B 129 2 (.slice (some ⟨x.1, 0, none⟩) (xs.length + 2) x.2.2) (xs.length + 2) ((xs ++ [mASample, mBSample]).flatMap encS)
structure Lents (w : World) (B i : Nat) (ls : List (List (Int × Int))) (v : Value) (Xs : List (Nat × Nat × Nat)) : Prop where
  len : Xs.length = ls.length
  own : w.ownsRow B 73 1 v ls.length (Xs.map valS)
  each : ∀ (j : Nat) x xs, i ≤ j → Xs[j]? = some x → ls[j]? = some xs → LentRow w B x xs
  typed : ∀ (j : Nat) x, i ≤ j → Xs[j]? = some x → B ≤ x.1 ∧ ∃ cs fz, w.heap[x.1]? = some (.cells cs 129 fz)
  lens : ∀ (j : Nat) x xs, Xs[j]? = some x → ls[j]? = some xs → x.2.1 = xs.length
  apart : ∀ (j k : Nat) x y, j ≠ k → Xs[j]? = some x → Xs[k]? = some y → x.1 ≠ y.1
section
variable {w w' wa wz : World} {B i n c : Nat} {A : Option Addr} {ls : List (List (Int × Int))} {v : Value} {Xs : List (Nat × Nat × Nat)}
theorem owns_type {e : TypeId} {size n g : Nat} {v : Value} {xs : List Value} (h : w.ownsRow B e size v n xs) (hg : v.ownBlock = some g) : ∃ cs fz, w.heap[g]? = some (.cells cs e fz) := by
  rcases h.2 with ⟨rfl, _⟩ | ⟨b, cap, cur, rfl, _, hb, _⟩
  · cases hg
  · obtain rfl : b = g := by simpa [Value.ownBlock] using hg
    exact ⟨cur, _, hb⟩
theorem Lents.alone (h : Lents w B i ls v Xs) {j : Nat} {x : Nat × Nat × Nat} (hj : i ≤ j) (hx : Xs[j]? = some x) : v.ownBlock ≠ some x.1 := by
  intro e
  obtain ⟨cs, fz, h1⟩ := owns_type h.own e
  obtain ⟨_, cs', fz', h2⟩ := h.typed j x hj hx
  rw [h1] at h2
  injection h2 with h2
  injection h2 with _ h2
  revert h2; decide
theorem Lents.nil (w : World) (B : Nat) : Lents w B 0 [] (.slice none 0 0) [] :=
  ⟨rfl, World.ownsRow_nil _ _ _ _, fun _ _ _ _ h => by simp at h, fun _ _ _ h => by simp at h, fun _ _ _ h => by simp at h, fun _ _ _ _ _ h => by simp at h⟩
theorem LentRow.keep {x : Nat × Nat × Nat} {xs : List (Int × Int)} (h : LentRow w B x xs) (hb : w'.heap[x.1]? = w.heap[x.1]?) : LentRow w' B x xs := by
  refine ⟨h.1, h.2.1, ?_⟩
  rcases h.2.2 with ⟨h', _⟩ | ⟨b, cap, cur, h', h1, h2, h3⟩
  · cases h'
  · have e : x.1 = b := by injection h' with h' _ _; injection h' with h'; injection h'
    subst e
    exact .inr ⟨x.1, cap, cur, h', h1, hb.trans h2, h3⟩
/-- A world where all that is asked lies as it lay. -/
theorem Lents.keep (h : Lents w B i ls v Xs) {k : Nat} (hik : i ≤ k) (hv : w'.ownsRow B 73 1 v ls.length (Xs.map valS)) (hx : ∀ (j : Nat) x, k ≤ j → Xs[j]? = some x → w'.heap[x.1]? = w.heap[x.1]?)
    : Lents w' B k ls v Xs :=
  ⟨h.len, hv, fun j x xs hj h1 h2 => (h.each j x xs (by omega) h1 h2).keep (hx j x hj h1), fun j x hj h1 => by
    obtain ⟨q1, cs, fz, q2⟩ := h.typed j x (by omega) h1
    exact ⟨q1, cs, fz, (hx j x hj h1).trans q2⟩, h.lens, h.apart⟩
theorem Lents.lt (h : Lents w B i ls v Xs) {j : Nat} {x : Nat × Nat × Nat} (hj : i ≤ j) (hx : Xs[j]? = some x) : x.1 < w.heap.size := by
  obtain ⟨_, cs, fz, h1⟩ := h.typed j x hj hx
  exact (Array.getElem?_eq_some_iff.1 h1).1
theorem Lents.below (h : Lents w B i ls v Xs) (hb : Below w.heap.size w w') : Lents w' B i ls v Xs :=
  h.keep (Nat.le_refl _) (owns_below h.own hb) (fun j x hj hx => hb.block _ (h.lt hj hx))
/-- The next list is lent out, and laid behind. -/
theorem Lents.step (h : Lents w B 0 ls v Xs) (hB : B ≤ w.heap.size) {xs : List (Int × Int)} {g c : Nat} {w1 : World} (hrow : w1.ownsRow w.heap.size 129 2 (.slice (some ⟨g, 0, none⟩) (xs.length + 2) c) (xs.length + 2) ((xs ++ [mASample, mBSample]).flatMap encS)) (hb : Below w.heap.size w w1)
    (hba : Below w1.heap.size w1 wa) {v' : Value} (hown : wz.ownsRow B 73 1 v' (ls.length + 1) (Xs.map valS ++ [.slice (some ⟨g, 0, none⟩) xs.length c])) (hg : wa.grownBy wz v.ownBlock) :
    Lents wz B 0 (ls ++ [xs]) v' (Xs ++ [(g, xs.length, c)]) := by
  have ha := (h.below hb).below hba
  have hgl := hrow.lt g rfl
  have hgt : ∃ cs fz, w1.heap[g]? = some (.cells cs 129 fz) := owns_type hrow rfl
  have hga : wa.heap[g]? = w1.heap[g]? := hba.block _ hgl.2
  have hgne : v.ownBlock ≠ some g := fun e => by have := (h.own.lt g e).2; omega
  have hgz : wz.heap[g]? = wa.heap[g]? := hg.block g (by have := hba.size; omega) (fun e => hgne e.symm)
  have hz : ∀ (j : Nat) x, Xs[j]? = some x → wz.heap[x.1]? = wa.heap[x.1]? := fun j x hx => hg.block _ (ha.lt (Nat.zero_le _) hx) (fun e => ha.alone (Nat.zero_le _) hx e.symm)
  have at_ : ∀ (j : Nat) x, (Xs ++ [(g, xs.length, c)])[j]? = some x → Xs[j]? = some x ∨ (j = Xs.length ∧ x = (g, xs.length, c)) := by
    intro j x hx
    by_cases hj : j < Xs.length
    · left; rwa [List.getElem?_append_left hj] at hx
    · right
      have hj2 := (List.getElem?_eq_some_iff.1 hx).1
      rw [List.length_append, List.length_singleton] at hj2
      have hj3 : j = Xs.length := by omega
      rw [hj3, List.getElem?_append_right (Nat.le_refl _), Nat.sub_self] at hx
      exact ⟨hj3, by simpa using hx.symm⟩
  have atl : ∀ (j : Nat) x ys, Xs[j]? = some x → (ls ++ [xs])[j]? = some ys → ls[j]? = some ys := by
    intro j x ys hx hy
    have hj := (List.getElem?_eq_some_iff.1 hx).1
    rw [h.len] at hj
    rwa [List.getElem?_append_left hj] at hy
  have atn : ∀ ys, (ls ++ [xs])[Xs.length]? = some ys → ys = xs := by
    intro ys hy
    rw [h.len, List.getElem?_append_right (Nat.le_refl _), Nat.sub_self] at hy
    simpa using hy.symm
  refine ⟨by simp [h.len], ?_, ?_, ?_, ?_, ?_⟩
  · rw [List.length_append, List.length_singleton, List.map_append]
    exact hown
  · intro j x ys _ hx hy
    rcases at_ j x hx with h1 | ⟨rfl, rfl⟩
    · exact (ha.each j x ys (Nat.zero_le _) h1 (atl j x ys h1 hy)).keep (hz j x h1)
    · obtain rfl := atn ys hy
      refine LentRow.keep (w := w1) (x := (g, ys.length, c)) ⟨rfl, owns_base hrow hB⟩ (hgz.trans hga)
  · intro j x _ hx
    rcases at_ j x hx with h1 | ⟨rfl, rfl⟩
    · obtain ⟨q1, cs, fz, q2⟩ := ha.typed j x (Nat.zero_le _) h1
      exact ⟨q1, cs, fz, (hz j x h1).trans q2⟩
    · obtain ⟨cs, fz, q⟩ := hgt
      exact ⟨Nat.le_trans hB hgl.1, cs, fz, (hgz.trans hga).trans q⟩
  · intro j x ys hx hy
    rcases at_ j x hx with h1 | ⟨rfl, rfl⟩
    · exact h.lens j x ys h1 (atl j x ys h1 hy)
    · rw [atn ys hy]
  · intro j k x y hjk hx hy
    rcases at_ j x hx with h1 | ⟨rfl, rfl⟩ <;> rcases at_ k y hy with h2 | ⟨rfl, rfl⟩
    · exact h.apart j k x y hjk h1 h2
    · have := h.lt (Nat.zero_le _) h1; show x.1 ≠ g; omega
    · have := h.lt (Nat.zero_le _) h2; show g ≠ y.1; omega
    · exact absurd rfl hjk
/-- Read as the lists that they are. -/
theorem Lents.lls (h : Lents w B 0 ls (.slice A n c) Xs) : n = ls.length ∧ Lls w w.heap.size A n ls := by
  have hn : n = ls.length := by
    rcases h.own.2 with ⟨e, h0⟩ | ⟨g, cap, cur, e, _⟩
    · injection e with _ e _; omega
    · injection e
  refine ⟨hn, hn.symm, fun h0 => ?_⟩
  rcases h.own.2 with ⟨e, h1⟩ | ⟨g, cap, cur, e, _, hg, _⟩
  · omega
  · injection e with e _ _
    refine ⟨g, 0, e, (Array.getElem?_eq_some_iff.1 hg).1, fun k xs hxs => ?_⟩
    have hk := (List.getElem?_eq_some_iff.1 hxs).1
    obtain ⟨x, hx⟩ : ∃ x, Xs[k]? = some x := ⟨_, List.getElem?_eq_getElem (by rw [h.len]; exact hk)⟩
    have hrow := h.each k x xs (Nat.zero_le _) hx hxs
    subst e
    have hc := owns_cell h.own (g := g) rfl (t := k) (u := valS x) (by rw [List.getElem?_map, hx]; rfl)
    obtain ⟨A', c', e', _, hL⟩ := ownsRow_lst hrow.2 (by simp) encS_len
    injection e' with e1 e2 e3
    refine ⟨some ⟨x.1, 0, none⟩, x.2.2, ?_, ?_, fun h => by cases h⟩
    · rw [Nat.zero_add, hc]; unfold valS; rw [hrow.1]
    · have := hL.take (k := xs.length) (by omega)
      rw [List.take_left' rfl, ← e1] at this
      exact this
end
end Go.Proofs.Ytglafbfbgjihbaa
