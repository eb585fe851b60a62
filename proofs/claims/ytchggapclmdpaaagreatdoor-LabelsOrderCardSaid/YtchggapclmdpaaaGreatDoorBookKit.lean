/- The checker's book: its block, what a call that lays a list behind in it leaves. -/
import Derived.Test.YtchggapclmdpaaaGreatDoorRowset
import Derived.Test.YtchggapclmdpaaaGreatDoorSteps
import Derived.LoopN
import Derived.OwnWalk
import Derived.Deep.DeepCutAuto
namespace Go.Proofs.YtchggapclmdpaaaGreatDoor
open Go.RowKit Go.Lib

theorem cells_one (w : World) (v : Value) (t : TypeId) : ∀ j u, [v][j]? = some u → (w.alloc (.cells #[v] t)).cell? ((⟨w.heap.size, 0, none⟩ : Addr).add j) = some u := by
  intro j u h
  rw [show ((⟨w.heap.size, 0, none⟩ : Addr).add j) = ⟨w.heap.size, j, none⟩ by simp only [Addr.add, Nat.zero_add]; cases j <;> rfl, cell_of_row _ _ _ _ _ _ (heap_alloc_new w _)]
  simpa using h
theorem apart_of {v : Value} {r : Option Nat} (h : ∀ b, v.ownBlock = some b → r ≠ some b) : v.ownBlock = none ∨ v.ownBlock ≠ r := by
  cases hv : v.ownBlock with
  | none => exact .inl rfl
  | some b => exact .inr fun e => h b hv e.symm
/-- A list of the row that has an element lies in a block of its own. -/
theorem owns_some {w : World} {B : Nat} {e : TypeId} {sz n : Nat} {A : Option Addr} {c : Nat} {xs : List Value} (h : w.ownsRow B e sz (.slice A n c) n xs) (hn : 0 < n) : ∃ g, A = some ⟨g, 0, none⟩ ∧ g < w.heap.size := by
  obtain ⟨g, cap, hv, _, hlt⟩ := h.form hn
  injection hv with hA _ _
  exact ⟨g, hA, hlt⟩

/-- The book: a block of 32 slices. -/
def Bk (w : World) (bk : Nat) (cs : Array Value) : Prop := w.heap[bk]? = some (.cells cs 73 (0, 0)) ∧ cs.size = 32
theorem Bk.lt {w : World} {bk : Nat} {cs : Array Value} (h : Bk w bk cs) : bk < w.heap.size := (Array.getElem?_eq_some_iff.1 h.1).1
theorem Bk.cell {w : World} {bk : Nat} {cs : Array Value} (h : Bk w bk cs) (i : Nat) : w.cell? ⟨bk, i, none⟩ = cs[i]? := cell_of_row w bk i cs _ (0, 0) h.1
theorem Bk.free {w : World} {bk : Nat} {cs : Array Value} (h : Bk w bk cs) (i : Nat) : w.frozen? ⟨bk, i, none⟩ = false := by simp [World.frozen?, h.1]
theorem Bk.kept {S : Nat → Prop} {w w' : World} {bk : Nat} {cs : Array Value} (h : Bk w bk cs) (g : GrownIn S w w') (hn : ¬ S bk) : Bk w' bk cs := ⟨(g.block bk h.lt hn).trans h.1, h.2⟩
/-- Behind a call that lays a list behind in field i of the book. -/
def PutPost (w : World) (bk B m i : Nat) (eS : TypeId) (cs : Array Value) (v l : Value) (Ls : List Value) (e : Ending) (w' : World) : Prop :=
  e = .returned (.tuple #[]) ∧ ∃ g c, w'.ownsRow B eS 1 (.slice (some ⟨g, 0, none⟩) (m + 1) c) (m + 1) (Ls ++ [l]) ∧ Bk w' bk (cs.setIfInBounds i (.slice (some ⟨g, 0, none⟩) (m + 1) c)) ∧
    GrownIn (fun k => k = bk ∨ v.ownBlock = some k) w w' ∧ (v.ownBlock = some g ∨ w.heap.size ≤ g)
theorem grownIn_set {S : Nat → Prop} {a w : World} (h : GrownIn S a w) {p : Addr} (hp : S p.block) (u : Value) : GrownIn S a (w.setCell p u) :=
  h.trans ⟨rfl, rfl, rfl, by simp [World.setCell], fun k _ hk => Below.heap_setCell _ _ _ _ (fun e => hk (e ▸ hp))⟩ (fun _ _ h => h)
theorem Bk.set {w : World} {bk : Nat} {cs : Array Value} (h : Bk w bk cs) (i : Nat) (v : Value) : Bk (w.setCell ⟨bk, i, none⟩ v) bk (cs.setIfInBounds i v) := ⟨heap_setCell_same w bk i cs _ v h.1, by simpa using h.2⟩
theorem owns_set_other {w : World} {B : Nat} {e : TypeId} {sz n : Nat} {v : Value} {xs : List Value} (h : w.ownsRow B e sz v n xs) {p : Addr} (hp : v.ownBlock ≠ some p.block) (u : Value) : (w.setCell p u).ownsRow B e sz v n xs :=
  (grownIn_set (S := fun k => k = p.block) (GrownIn.refl _ w) rfl u).owns h (fun k hk e => hp (by rw [hk, e]))
end Go.Proofs.YtchggapclmdpaaaGreatDoor
