/- Words for memory that the other texts of this claim use: a slice that reads as a list of cells, a block known whole, appending any readable source to a row of the call's own. Under no condition on the program. Slices that read as lists of elements of several cells. -/
import Derived.Test.YtajaijidecomdaaGreatDoorChecked
import Derived.WalkKit
import Derived.Lib.Hide
import Derived.Deep.AppendLies
import Derived.Deep.Draws
import Derived.Deep.QuietTactic
import Derived.BigQuiet
import Derived.RegionTactic
import Derived.ChangeAlike
import Derived.Outline
import Derived.WalkSpells
import Derived.WalkLawsBesides
import Derived.Maps.AppendAt
import Derived.Laws.OwnMore
namespace Go.Proofs.YtajaijidecomdaaGreatDoor
open Go.RowKit

theorem block_of_add (a : Addr) (n : Nat) : (a.add n).block = a.block := by unfold Addr.add; split <;> rfl
theorem add_of_add (a : Addr) (i j : Nat) : (a.add i).add j = a.add (i + j) := by
  unfold Addr.add
  by_cases hi : i = 0 <;> by_cases hj : j = 0 <;> simp [hi, hj, Nat.add_assoc]

/-- The slice value '.slice A n c' holds the cells xs, and lies below block B. -/
def Reads (w : World) (B size : Nat) (A : Option Addr) (n : Nat) (xs : List Value) : Prop :=
  xs.length = n * size ∧ (0 < n → ∃ ad, A = some ad ∧ ad.block < B ∧ ∀ j u, xs[j]? = some u → w.cell? (ad.add j) = some u)

section
variable {w w' : World} {B B' size n : Nat} {A : Option Addr} {xs : List Value}
theorem Reads.none_ : Reads w B size A 0 [] := ⟨by simp, fun h => absurd h (by omega)⟩
theorem Reads.keep (h : Reads w B size A n xs) (hk : ∀ p : Addr, p.block < B → w'.cell? p = w.cell? p) : Reads w' B size A n xs :=
  ⟨h.1, fun hn => by
    obtain ⟨ad, e, hb, hc⟩ := h.2 hn
    exact ⟨ad, e, hb, fun j u hu => (hk _ (by rw [block_of_add]; exact hb)).trans (hc j u hu)⟩⟩
theorem Reads.more (h : Reads w B size A n xs) (hB : B ≤ B') : Reads w B' size A n xs :=
  ⟨h.1, fun hn => by
    obtain ⟨ad, e, hb, hc⟩ := h.2 hn
    exact ⟨ad, e, by omega, hc⟩⟩
theorem Reads.below (h : Reads w B size A n xs) (hb : Below B w w') : Reads w' B size A n xs := h.keep fun _ hp => hb.cell hp
end
end Go.Proofs.YtajaijidecomdaaGreatDoor
namespace Go.Proofs.YtajaijidecomdaaGreatDoor
open Go.RowKit Go.Lib

/-- The slice value '.slice A n c' holds the list l, each element as 'size' cells; it lies below block B. -/
def Lst {α : Type} (enc : α → List Value) (size : Nat) (w : World) (B : Nat) (A : Option Addr) (n : Nat) (l : List α) : Prop :=
  l.length = n ∧ (0 < n → ∃ b off, A = some ⟨b, off, none⟩ ∧ b < B ∧ ∀ k x, l[k]? = some x → ∀ i u, (enc x)[i]? = some u → w.cell? ⟨b, off + k * size + i, none⟩ = some u)
section
variable {α : Type} {enc : α → List Value} {size : Nat} {w w' : World} {B B' : Nat} {A : Option Addr} {n : Nat} {l : List α}
theorem Lst.keep (h : Lst enc size w B A n l) (hk : ∀ p : Addr, p.block < B → w'.cell? p = w.cell? p) : Lst enc size w' B A n l :=
  ⟨h.1, fun hn => by
    obtain ⟨b, off, e, hb, hc⟩ := h.2 hn
    exact ⟨b, off, e, hb, fun k x hx i u hu => (hk _ hb).trans (hc k x hx i u hu)⟩⟩
theorem Lst.more (h : Lst enc size w B A n l) (hB : B ≤ B') : Lst enc size w B' A n l :=
  ⟨h.1, fun hn => by
    obtain ⟨b, off, e, hb, hc⟩ := h.2 hn
    exact ⟨b, off, e, by omega, hc⟩⟩
theorem Lst.below (h : Lst enc size w B A n l) (hb : Below B w w') : Lst enc size w' B A n l := h.keep fun _ hp => hb.cell hp
theorem Lst.at (h : Lst enc size w B A n l) {k : Nat} (hk : k < n) : ∃ b off x, A = some ⟨b, off, none⟩ ∧ b < B ∧ l[k]? = some x ∧ ∀ i u, (enc x)[i]? = some u → w.cell? ⟨b, off + k * size + i, none⟩ = some u := by
  obtain ⟨b, off, e, hb, hc⟩ := h.2 (by omega)
  have hl : k < l.length := by have := h.1; omega
  exact ⟨b, off, l[k], e, hb, List.getElem?_eq_getElem hl, hc k _ (List.getElem?_eq_getElem hl)⟩
end
section
variable {α : Type} {enc : α → List Value} {size : Nat}
theorem flatMap_length (hsz : ∀ x, (enc x).length = size) : ∀ l : List α, (l.flatMap enc).length = l.length * size
  | [] => by simp
  | x :: l => by rw [List.flatMap_cons, List.length_append, hsz, flatMap_length hsz l, List.length_cons, Nat.succ_mul, Nat.add_comm]
theorem flatMap_at (hsz : ∀ x, (enc x).length = size) : ∀ (l : List α) (k : Nat) (x : α), l[k]? = some x → ∀ i u, (enc x)[i]? = some u → (l.flatMap enc)[k * size + i]? = some u
  | [], k, x, h => by simp at h
  | y :: l, 0, x, h => fun i u hu => by
    obtain rfl : y = x := by simpa using h
    have hi := (List.getElem?_eq_some_iff.1 hu).1
    rw [List.flatMap_cons, Nat.zero_mul, Nat.zero_add, List.getElem?_append_left hi, hu]
  | y :: l, k + 1, x, h => fun i u hu => by
    rw [List.flatMap_cons, List.getElem?_append_right (by rw [hsz, Nat.succ_mul]; omega), hsz]
    have e : (k + 1) * size + i - size = k * size + i := by rw [Nat.succ_mul]; omega
    rw [e]
    exact flatMap_at hsz l k x (by simpa using h) i u hu
theorem ownsRow_lst {w : World} {base : Nat} {t : TypeId} {v : Value} {n : Nat} {l : List α} (h : w.ownsRow base t size v n (l.flatMap enc)) (hl : l.length = n) (hsz : ∀ x, (enc x).length = size) :
    ∃ A c, v = .slice A n c ∧ n ≤ maxLen ∧ Lst enc size w w.heap.size A n l := by
  rcases h.2 with ⟨rfl, h0⟩ | ⟨g, cap, cur, rfl, hb, hg, h1, h2, h3, h4⟩
  · subst h0
    exact ⟨none, 0, rfl, Nat.zero_le _, hl, fun h => absurd h (by omega)⟩
  · refine ⟨_, cap, rfl, by omega, hl, fun _ => ⟨g, 0, rfl, (Array.getElem?_eq_some_iff.1 hg).1, fun k x hx i u hu => ?_⟩⟩
    rw [h.cellAt _ (by have := (List.getElem?_eq_some_iff.1 hx).1; have hi := (List.getElem?_eq_some_iff.1 hu).1; rw [hsz] at hi; have : (k + 1) * size ≤ n * size := Nat.mul_le_mul_right _ (by omega); rw [Nat.succ_mul] at this; omega)]
    rw [Nat.zero_add]
    exact flatMap_at hsz l k x hx i u hu
end
abbrev Ints (w : World) (B : Nat) (A : Option Addr) (n : Nat) (l : List Int) : Prop := Lst (fun x => [Value.int .i64 x]) 1 w B A n l
theorem ints_flat (l : List Int) : l.map (Value.int .i64) = l.flatMap (fun x => [Value.int .i64 x]) := by
  induction l with
  | nil => rfl
  | cons a l ih => rw [List.map_cons, List.flatMap_cons, ih]; rfl
theorem ownsRow_ints {w : World} {base : Nat} {t : TypeId} {v : Value} {n : Nat} {l : List Int} (h : w.ownsRow base t 1 v n (l.map (Value.int .i64))) (hl : l.length = n) :
    ∃ A c, v = .slice A n c ∧ n ≤ maxLen ∧ Ints w w.heap.size A n l := ownsRow_lst (by rw [← ints_flat]; exact h) hl fun _ => rfl
section
variable {α : Type} {enc : α → List Value} {size : Nat} {w : World}
theorem lst_block {g : Nat} {cur : Array Value} {e : TypeId} {fz : Nat × Nat} {l : List α} {n : Nat} (hg : w.heap[g]? = some (.cells cur e fz)) (hc : cur.toList = l.flatMap enc) (hn : l.length = n) (hsz : ∀ x, (enc x).length = size) : Lst enc size w w.heap.size (some ⟨g, 0, none⟩) n l :=
  ⟨hn, fun _ => ⟨g, 0, rfl, (Array.getElem?_eq_some_iff.1 hg).1, fun k x hx i u hu => by
    have h := flatMap_at hsz l k x hx i u hu
    rw [← hc, Array.getElem?_toList] at h
    rw [Nat.zero_add, cell_of_row w g _ _ _ _ hg, h]⟩⟩
theorem Lst.take {B : Nat} {A : Option Addr} {n : Nat} {l : List α} (h : Lst enc size w B A n l) {k : Nat} (hk : k ≤ n) : Lst enc size w B A k (l.take k) :=
  ⟨by rw [List.length_take, h.1]; omega, fun h0 => by
    obtain ⟨b, off, e, hb, hc⟩ := h.2 (by omega)
    exact ⟨b, off, e, hb, fun j x hx => hc j x (by
      have hj := (List.getElem?_eq_some_iff.1 hx).1
      rw [List.length_take] at hj
      rw [← hx, List.getElem?_take_of_lt (by omega)])⟩⟩
theorem Lst.nil {B : Nat} : Lst enc size w B none 0 [] := ⟨rfl, fun h => absurd h (by omega)⟩
end
theorem flatMap_get {α : Type} {enc : α → List Value} {size : Nat} (hsz : ∀ x, (enc x).length = size) {l : List α} {j : Nat} {u : Value} (h : (l.flatMap enc)[j]? = some u) :
    ∃ k x, l[k]? = some x ∧ j = k * size + j % size ∧ (enc x)[j % size]? = some u := by
  have hj := (List.getElem?_eq_some_iff.1 h).1
  rw [flatMap_length hsz] at hj
  have h0 : 0 < size := Nat.pos_of_ne_zero fun e => by subst e; simp at hj
  have hk : j / size < l.length := (Nat.div_lt_iff_lt_mul h0).2 hj
  have he : j = j / size * size + j % size := by rw [Nat.mul_comm]; exact (Nat.div_add_mod j size).symm
  have hm : j % size < (enc l[j / size]).length := by rw [hsz]; exact Nat.mod_lt _ h0
  have := flatMap_at hsz l (j / size) l[j / size] (List.getElem?_eq_getElem hk) (j % size) _ (List.getElem?_eq_getElem hm)
  rw [← he, h] at this
  exact ⟨j / size, _, List.getElem?_eq_getElem hk, he, by rw [this]; exact List.getElem?_eq_getElem hm⟩
theorem Lst.flat {α : Type} {enc : α → List Value} {size : Nat} {w : World} {B n : Nat} {ad : Addr} {l : List α} (h : Lst enc size w B (some ad) n l) (hsz : ∀ x, (enc x).length = size) :
    ∀ j u, (l.flatMap enc)[j]? = some u → w.cell? (ad.add j) = some u := by
  intro j u hu
  obtain ⟨k, x, hx, hj, hu'⟩ := flatMap_get hsz hu
  have hk := (List.getElem?_eq_some_iff.1 hx).1
  obtain ⟨b, off, e, hb, hc⟩ := h.2 (by have := h.1; omega)
  cases e
  have := hc k x hx _ u hu'
  rw [show (⟨b, off, none⟩ : Addr).add j = ⟨b, off + k * size + j % size, none⟩ by
    simp only [Addr.add]
    have e : off + j = off + k * size + j % size := by omega
    cases j with
    | zero => simp at e ⊢; omega
    | succ j => rw [if_neg (Nat.succ_ne_zero j), e]]
  exact this
theorem cells_newL (w : World) (cs : List Value) (t : TypeId) : ∀ j u, cs[j]? = some u → (w.alloc (.cells cs.toArray t)).cell? ((⟨w.heap.size, 0, none⟩ : Addr).add j) = some u := by
  intro j u h
  rw [show ((⟨w.heap.size, 0, none⟩ : Addr).add j) = ⟨w.heap.size, j, none⟩ by simp only [Addr.add, Nat.zero_add]; cases j <;> rfl, cell_of_row _ _ _ _ _ _ (heap_alloc_new w _)]
  simpa using h
end Go.Proofs.YtajaijidecomdaaGreatDoor
