/- Two lists in the checker's book, and what stands when all is asked. -/
import Derived.Test.YtglafbfbgjihbaaBookSample
import Derived.Test.YtglafbfbgjihbaaSameSample
namespace Go.Proofs.Ytglafbfbgjihbaa
open Go.RowKit Go.Lib

def nils : Array Value := (List.replicate 32 (Value.slice none 0 0)).toArray
theorem nils_at {k : Nat} (hk : k < 32) : nils[k]? = some (.slice none 0 0) := by unfold nils; rw [List.getElem?_toArray, List.getElem?_replicate, if_pos hk]
/-- Two lists in the book. -/
def two (a b : Value) (j : Nat) : Value := if j = 0 then a else b
theorem lists_two {w : World} {B : Nat} {e : TypeId} {sz BL n m : Nat} {a b : Value} {xs ys : List Value} (ha : w.ownsRow B e sz a n xs) (hb : w.ownsRow B e sz b m ys)
    (hne : ∀ g, a.ownBlock = some g → b.ownBlock ≠ some g) (h0 : w.cell? ⟨BL, 0, none⟩ = some a) (h1 : w.cell? ⟨BL, 1, none⟩ = some b) (oa : a.ownBlock ≠ some BL) (ob : b.ownBlock ≠ some BL) :
    Lists w B e sz BL 2 (two a b) (fun j => if j = 0 then n else m) where
  row j hj := by
    rcases (show j = 0 ∨ j = 1 by omega) with rfl | rfl
    · exact h0
    · exact h1
  own j hj := by
    rcases (show j = 0 ∨ j = 1 by omega) with rfl | rfl
    · exact ⟨xs, ha⟩
    · exact ⟨ys, hb⟩
  apart i j hi hj hij g := by
    rcases (show i = 0 ∨ i = 1 by omega) with rfl | rfl <;> rcases (show j = 0 ∨ j = 1 by omega) with rfl | rfl
    · exact absurd rfl hij
    · exact hne g
    · intro h1 h2; exact hne g h2 h1
    · exact absurd rfl hij
  off j hj := by
    rcases (show j = 0 ∨ j = 1 by omega) with rfl | rfl
    · exact oa
    · exact ob
/-- What stands when all is asked: the book, the two lists, the reference's. -/
structure Last (w wi : World) (bk : Nat) (cs : Array Value) (a b lv r : Value) (R : List (Int × Int)) : Prop where
  book : Bk wi bk cs
  old : Below w.heap.size w wi
  one : wi.ownsRow w.heap.size 129 2 a R.length (R.flatMap encS)
  two : wi.ownsRow w.heap.size 129 2 b R.length (R.flatMap encS)
  ref : wi.ownsRow w.heap.size 129 2 r R.length (R.flatMap encS)
  list : wi.ownsRow w.heap.size 73 1 lv 2 [a, b]
theorem Last.step {w wi wj : World} {bk : Nat} {cs : Array Value} {a b lv r : Value} {R : List (Int × Int)} (h : Last w wi bk cs a b lv r R) (hb : Below wi.heap.size wi wj) : Last w wj bk cs a b lv r R where
  book := h.book.kept (GrownIn.of_below hb) (by have := h.book.lt; omega)
  old := h.old.trans (hb.mono h.old.size)
  one := owns_below h.one hb
  two := owns_below h.two hb
  ref := owns_below h.ref hb
  list := owns_below h.list hb
theorem Last.drewN {w wi : World} {bk : Nat} {cs : Array Value} {a b lv r : Value} {R : List (Int × Int)} (h : Last w wi bk cs a b lv r R) (q : Nat) : Last w (wi.drewN q) bk cs a b lv r R := h.step (below_drewN (Below.refl _ _) q)
/-- SameSamples of two rows that hold the same. -/
theorem same_own {a b : Value} {B B' n m : Nat} {l : List (Int × Int)} {w : World} (ha : w.ownsRow B 129 2 a n (l.flatMap encS)) (hb : w.ownsRow B' 129 2 b n (l.flatMap encS)) (hn : n ≤ 1000000000) (_hm : m = n) :
    Calls Try.prog 25 #[a, b] w fun e w' => e = .returned (.bool true) ∧ Below w.heap.size w w' := by
  have hl := owns_len ha encS_len (by omega)
  obtain ⟨A, c, rfl, _, h1⟩ := ownsRow_lst ha hl encS_len
  obtain ⟨A', c', rfl, _, h2⟩ := ownsRow_lst hb hl encS_len
  exact sameSample_eq A A' n c c' l w h1 h2 hn
end Go.Proofs.Ytglafbfbgjihbaa
