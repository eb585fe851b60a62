/- Plain laws of three-way comparisons: bytes, texts, labels, lists of labels. No program. Words for memory that the other texts of this claim use: a slice that reads as a list of cells, a block known whole, appending any readable source to a row of the call's own. Under no condition on the program. Slices that read as lists of elements of several cells. labels.Cmp: two lists of labels, label by label, each by name, then by value. SameLabels: whether two lists of labels are the same. One append onto a row of the call's own, said in full: where the new row lies, and that what stood in the old one can still be read there. Lists in memory of their own, and what an owner's marks do to them: plain facts about worlds for the own* functions of the checker's book. Rows of elements of two cells; clear; what a predicate handed to the library has to do. Rows of labels: what the walks over them ask. -/
import Derived.Lib.Bytealg
import Derived.Test.YtchggapclmdpaaaGreatDoorChecked
import Derived.WalkKit
import Derived.Lib.Hide
import Derived.Deep.AppendLies
import Derived.Deep.Draws
import Derived.Deep.QuietTactic
import Derived.BigQuiet
import Derived.RegionTactic
import Derived.ChangeAlike
import Derived.Outline
import Derived.WalkSpells
import Derived.WalkLawsBesides
import Derived.Maps.AppendAt
import Derived.Laws.OwnMore
import Derived.Deep.RegionHeld3
import Derived.LoopN
import Derived.Below
import Derived.Laws.CopyOwn
namespace Go.Proofs.YtchggapclmdpaaaGreatDoor
open Go

/-- A three-way comparison that puts all into one order. -/
structure Cmp3 {α : Type} (c : α → α → Int) : Prop where
  swap : ∀ x y, c y x = - c x y
  zero : ∀ x y, c x y = 0 ↔ x = y
  trans : ∀ x y z, c x y < 0 → c y z < 0 → c x z < 0
section
variable {α : Type} {c : α → α → Int}
theorem Cmp3.self (h : Cmp3 c) (x : α) : c x x = 0 := (h.zero x x).2 rfl
theorem Cmp3.le_trans (h : Cmp3 c) {x y z : α} (h1 : c x y ≤ 0) (h2 : c y z ≤ 0) : c x z ≤ 0 := by
  by_cases e1 : c x y = 0
  · rw [(h.zero x y).1 e1]; exact h2
  · by_cases e2 : c y z = 0
    · rw [← (h.zero y z).1 e2]; exact h1
    · have := h.trans x y z (by omega) (by omega); omega
/-- Two lists, element by element; a list comes behind its beginnings. -/
def lexC (c : α → α → Int) : List α → List α → Int
  | [], [] => 0
  | [], _ :: _ => -1
  | _ :: _, [] => 1
  | a :: x, b :: y => if c a b = 0 then lexC c x y else c a b
theorem lexC_swap (h : Cmp3 c) : ∀ x y, lexC c y x = - lexC c x y
  | [], [] => rfl
  | [], _ :: _ => rfl
  | _ :: _, [] => rfl
  | a :: x, b :: y => by
    have hs := h.swap a b
    unfold lexC
    by_cases e : c a b = 0
    · rw [if_pos e, if_pos (by omega)]; exact lexC_swap h x y
    · rw [if_neg e, if_neg (by omega)]; exact hs
theorem lexC_zero (h : Cmp3 c) : ∀ x y, lexC c x y = 0 ↔ x = y
  | [], [] => by simp [lexC]
  | [], _ :: _ => by simp [lexC]
  | _ :: _, [] => by simp [lexC]
  | a :: x, b :: y => by
    unfold lexC
    by_cases e : c a b = 0
    · rw [if_pos e, lexC_zero h x y, List.cons.injEq, (h.zero a b).1 e]; simp
    · rw [if_neg e, List.cons.injEq]
      constructor
      · intro h'; exact absurd h' e
      · intro h'; exact absurd ((h.zero a b).2 h'.1) e
theorem lexC_trans (h : Cmp3 c) : ∀ x y z, lexC c x y < 0 → lexC c y z < 0 → lexC c x z < 0
  | [], [], _ => by simp [lexC]
  | [], _ :: _, [] => by simp [lexC]
  | [], _ :: _, _ :: _ => by simp [lexC]
  | _ :: _, [], _ => by simp [lexC]
  | _ :: _, _ :: _, [] => by simp [lexC]
  | a :: x, b :: y, d :: z => by
    have ih := lexC_trans h x y z
    unfold lexC
    intro h1 h2
    by_cases e1 : c a b = 0
    · rw [if_pos e1] at h1
      have hab := (h.zero a b).1 e1
      subst hab
      by_cases e2 : c a d = 0
      · rw [if_pos e2] at h2 ⊢
        exact ih h1 h2
      · rw [if_neg e2] at h2 ⊢
        exact h2
    · rw [if_neg e1] at h1
      by_cases e2 : c b d = 0
      · have hbd := (h.zero b d).1 e2
        subst hbd
        rw [if_neg e1]; exact h1
      · rw [if_neg e2] at h2
        have := h.trans a b d h1 h2
        rw [if_neg (by omega)]; exact this
theorem lexC_cmp3 (h : Cmp3 c) : Cmp3 (lexC c) := ⟨lexC_swap h, lexC_zero h, lexC_trans h⟩
/-- First by one thing, then by another. -/
theorem pair_cmp3 {β γ : Type} {f : α → β} {g : α → γ} {cb : β → β → Int} {cg : γ → γ → Int} (hb : Cmp3 cb) (hg : Cmp3 cg) (inj : ∀ x y, f x = f y → g x = g y → x = y) :
    Cmp3 fun x y : α => if cb (f x) (f y) = 0 then cg (g x) (g y) else cb (f x) (f y) where
  swap x y := by
    have h1 := hb.swap (f x) (f y)
    have h2 := hg.swap (g x) (g y)
    by_cases e : cb (f x) (f y) = 0
    · rw [if_pos e, if_pos (by omega)]; exact h2
    · rw [if_neg e, if_neg (by omega)]; exact h1
  zero x y := by
    by_cases e : cb (f x) (f y) = 0
    · rw [if_pos e, hg.zero]
      exact ⟨fun h => inj x y ((hb.zero _ _).1 e) h, fun h => by rw [h]⟩
    · rw [if_neg e]
      exact ⟨fun h => absurd h e, fun h => absurd ((hb.zero _ _).2 (by rw [h])) e⟩
  trans x y z := by
    intro h1 h2
    by_cases e1 : cb (f x) (f y) = 0
    · rw [if_pos e1] at h1
      rw [(hb.zero _ _).1 e1]
      by_cases e2 : cb (f y) (f z) = 0
      · rw [if_pos e2] at h2 ⊢
        exact hg.trans _ _ _ h1 h2
      · rw [if_neg e2] at h2 ⊢
        exact h2
    · rw [if_neg e1] at h1
      by_cases e2 : cb (f y) (f z) = 0
      · rw [← (hb.zero _ _).1 e2, if_neg e1]; exact h1
      · rw [if_neg e2] at h2
        have := hb.trans _ _ _ h1 h2
        rw [if_neg (by omega)]; exact this
end
/-- Two bytes. -/
def byteC (a b : UInt8) : Int := if a < b then -1 else if b < a then 1 else 0
theorem byteC_cmp3 : Cmp3 byteC where
  swap x y := by
    unfold byteC
    simp only [UInt8.lt_iff_toNat_lt]
    by_cases h1 : x.toNat < y.toNat
    · rw [if_neg (by omega), if_pos h1, if_pos h1]; rfl
    · by_cases h2 : y.toNat < x.toNat
      · rw [if_pos h2, if_neg h1, if_pos h2]
      · rw [if_neg h2, if_neg h1, if_neg h1, if_neg h2]; rfl
  zero x y := by
    unfold byteC
    simp only [UInt8.lt_iff_toNat_lt]
    constructor
    · intro h
      apply UInt8.toNat_inj.1
      by_cases h1 : x.toNat < y.toNat
      · rw [if_pos h1] at h; omega
      · by_cases h2 : y.toNat < x.toNat
        · rw [if_neg h1, if_pos h2] at h; omega
        · omega
    · rintro rfl
      simp
  trans x y z := by
    unfold byteC
    simp only [UInt8.lt_iff_toNat_lt]
    intro h1 h2
    have a1 : x.toNat < y.toNat := by
      by_cases h : x.toNat < y.toNat
      · exact h
      · rw [if_neg h] at h1; split at h1 <;> omega
    have a2 : y.toNat < z.toNat := by
      by_cases h : y.toNat < z.toNat
      · exact h
      · rw [if_neg h] at h2; split at h2 <;> omega
    rw [if_pos (by omega)]; omega
theorem bytesLess_lex : ∀ x y : List UInt8, Op.bytesLess x y = decide (lexC byteC x y < 0)
  | [], [] => by simp [Op.bytesLess, lexC]
  | [], _ :: _ => by simp [Op.bytesLess, lexC]
  | _ :: _, [] => by simp [Op.bytesLess, lexC]
  | a :: x, b :: y => by
    rw [Op.bytesLess, bytesLess_lex x y, lexC]
    unfold byteC
    by_cases h1 : a < b
    · simp [h1]
    · by_cases h2 : b < a
      · have hne : ¬ a = b := by rintro rfl; exact h1 h2
        simp [h1, h2, hne]
      · have e : a = b := by
          apply UInt8.toNat_inj.1
          rw [UInt8.lt_iff_toNat_lt] at h1 h2
          omega
        subst e
        simp [h1]
/-- Two texts, as cmp.Compare has them. -/
def textC (x y : ByteArray) : Int := if Op.bytesLess x.toList y.toList then -1 else if Op.bytesLess y.toList x.toList then 1 else 0
theorem lexC_sign {x y : List UInt8} : lexC byteC x y = -1 ∨ lexC byteC x y = 0 ∨ lexC byteC x y = 1 := by
  induction x generalizing y with
  | nil => cases y <;> simp [lexC]
  | cons a x ih =>
    cases y with
    | nil => simp [lexC]
    | cons b y =>
      unfold lexC
      by_cases e : byteC a b = 0
      · rw [if_pos e]; exact ih
      · rw [if_neg e]
        unfold byteC at e ⊢
        split
        · exact .inl rfl
        · split
          · exact .inr (.inr rfl)
          · exact .inr (.inl rfl)
theorem textC_lex (x y : ByteArray) : textC x y = lexC byteC x.toList y.toList := by
  unfold textC
  rw [bytesLess_lex, bytesLess_lex, lexC_swap byteC_cmp3 x.toList y.toList]
  rcases lexC_sign (x := x.toList) (y := y.toList) with h | h | h <;> rw [h] <;> decide
theorem toList_inj {x y : ByteArray} (h : x.toList = y.toList) : x = y := by
  rw [Go.Lib.toList_data, Go.Lib.toList_data] at h
  exact ByteArray.ext (Array.toList_inj.1 h)
theorem textC_cmp3 : Cmp3 textC where
  swap x y := by rw [textC_lex, textC_lex]; exact lexC_swap byteC_cmp3 _ _
  zero x y := by
    rw [textC_lex, lexC_zero byteC_cmp3]
    exact ⟨toList_inj, fun h => by rw [h]⟩
  trans x y z := by rw [textC_lex, textC_lex, textC_lex]; exact lexC_trans byteC_cmp3 _ _ _
/-- A label. -/
structure Lb where
  nm : ByteArray
  vl : ByteArray
def labelC (a b : Lb) : Int := if textC a.nm b.nm = 0 then textC a.vl b.vl else textC a.nm b.nm
theorem labelC_cmp3 : Cmp3 labelC := pair_cmp3 (f := Lb.nm) (g := Lb.vl) textC_cmp3 textC_cmp3 fun x y h1 h2 => by cases x; cases y; simp_all
def labelsC : List Lb → List Lb → Int := lexC labelC
theorem labelsC_cmp3 : Cmp3 labelsC := lexC_cmp3 labelC_cmp3
end Go.Proofs.YtchggapclmdpaaaGreatDoor
namespace Go.Proofs.YtchggapclmdpaaaGreatDoor
open Go.RowKit

theorem block_of_add (a : Addr) (n : Nat) : (a.add n).block = a.block := by unfold Addr.add; split <;> rfl
theorem add_of_add (a : Addr) (i j : Nat) : (a.add i).add j = a.add (i + j) := by
  unfold Addr.add
  by_cases hi : i = 0 <;> by_cases hj : j = 0 <;> simp [hi, hj, Nat.add_assoc]

/-- The slice value '.slice A n c' holds the cells xs, and lies below block B. -/
def Reads (w : World) (B size : Nat) (A : Option Addr) (n : Nat) (xs : List Value) : Prop :=
  xs.length = n * size ∧ (0 < n → ∃ ad, A = some ad ∧ ad.block < B ∧ ∀ j u, xs[j]? = some u → w.cell? (ad.add j) = some u)

section
variable {w w' : World} {B B' size n : Nat} {A : Option Addr} {xs : List Value}
theorem Reads.none_ : Reads w B size A 0 [] := ⟨by simp, fun h => absurd h (by omega)⟩
theorem Reads.keep (h : Reads w B size A n xs) (hk : ∀ p : Addr, p.block < B → w'.cell? p = w.cell? p) : Reads w' B size A n xs :=
  ⟨h.1, fun hn => by
    obtain ⟨ad, e, hb, hc⟩ := h.2 hn
    exact ⟨ad, e, hb, fun j u hu => (hk _ (by rw [block_of_add]; exact hb)).trans (hc j u hu)⟩⟩
theorem Reads.more (h : Reads w B size A n xs) (hB : B ≤ B') : Reads w B' size A n xs :=
  ⟨h.1, fun hn => by
    obtain ⟨ad, e, hb, hc⟩ := h.2 hn
    exact ⟨ad, e, by omega, hc⟩⟩
theorem Reads.below (h : Reads w B size A n xs) (hb : Below B w w') : Reads w' B size A n xs := h.keep fun _ hp => hb.cell hp
end
end Go.Proofs.YtchggapclmdpaaaGreatDoor
namespace Go.Proofs.YtchggapclmdpaaaGreatDoor
open Go.RowKit Go.Lib

/-- The slice value '.slice A n c' holds the list l, each element as 'size' cells; it lies below block B. -/
def Lst {α : Type} (enc : α → List Value) (size : Nat) (w : World) (B : Nat) (A : Option Addr) (n : Nat) (l : List α) : Prop :=
  l.length = n ∧ (0 < n → ∃ b off, A = some ⟨b, off, none⟩ ∧ b < B ∧ ∀ k x, l[k]? = some x → ∀ i u, (enc x)[i]? = some u → w.cell? ⟨b, off + k * size + i, none⟩ = some u)
section
variable {α : Type} {enc : α → List Value} {size : Nat} {w w' : World} {B B' : Nat} {A : Option Addr} {n : Nat} {l : List α}
theorem Lst.keep (h : Lst enc size w B A n l) (hk : ∀ p : Addr, p.block < B → w'.cell? p = w.cell? p) : Lst enc size w' B A n l :=
  ⟨h.1, fun hn => by
    obtain ⟨b, off, e, hb, hc⟩ := h.2 hn
    exact ⟨b, off, e, hb, fun k x hx i u hu => (hk _ hb).trans (hc k x hx i u hu)⟩⟩
theorem Lst.more (h : Lst enc size w B A n l) (hB : B ≤ B') : Lst enc size w B' A n l :=
  ⟨h.1, fun hn => by
    obtain ⟨b, off, e, hb, hc⟩ := h.2 hn
    exact ⟨b, off, e, by omega, hc⟩⟩
theorem Lst.below (h : Lst enc size w B A n l) (hb : Below B w w') : Lst enc size w' B A n l := h.keep fun _ hp => hb.cell hp
theorem Lst.at (h : Lst enc size w B A n l) {k : Nat} (hk : k < n) : ∃ b off x, A = some ⟨b, off, none⟩ ∧ b < B ∧ l[k]? = some x ∧ ∀ i u, (enc x)[i]? = some u → w.cell? ⟨b, off + k * size + i, none⟩ = some u := by
  obtain ⟨b, off, e, hb, hc⟩ := h.2 (by omega)
  have hl : k < l.length := by have := h.1; omega
  exact ⟨b, off, l[k], e, hb, List.getElem?_eq_getElem hl, hc k _ (List.getElem?_eq_getElem hl)⟩
end
section
variable {α : Type} {enc : α → List Value} {size : Nat}
theorem flatMap_length (hsz : ∀ x, (enc x).length = size) : ∀ l : List α, (l.flatMap enc).length = l.length * size
  | [] => by simp
  | x :: l => by rw [List.flatMap_cons, List.length_append, hsz, flatMap_length hsz l, List.length_cons, Nat.succ_mul, Nat.add_comm]
theorem flatMap_at (hsz : ∀ x, (enc x).length = size) : ∀ (l : List α) (k : Nat) (x : α), l[k]? = some x → ∀ i u, (enc x)[i]? = some u → (l.flatMap enc)[k * size + i]? = some u
  | [], k, x, h => by simp at h
  | y :: l, 0, x, h => fun i u hu => by
    obtain rfl : y = x := by simpa using h
    have hi := (List.getElem?_eq_some_iff.1 hu).1
    rw [List.flatMap_cons, Nat.zero_mul, Nat.zero_add, List.getElem?_append_left hi, hu]
  | y :: l, k + 1, x, h => fun i u hu => by
    rw [List.flatMap_cons, List.getElem?_append_right (by rw [hsz, Nat.succ_mul]; omega), hsz]
    have e : (k + 1) * size + i - size = k * size + i := by rw [Nat.succ_mul]; omega
    rw [e]
    exact flatMap_at hsz l k x (by simpa using h) i u hu
theorem ownsRow_lst {w : World} {base : Nat} {t : TypeId} {v : Value} {n : Nat} {l : List α} (h : w.ownsRow base t size v n (l.flatMap enc)) (hl : l.length = n) (hsz : ∀ x, (enc x).length = size) :
    ∃ A c, v = .slice A n c ∧ n ≤ maxLen ∧ Lst enc size w w.heap.size A n l := by
  rcases h.2 with ⟨rfl, h0⟩ | ⟨g, cap, cur, rfl, hb, hg, h1, h2, h3, h4⟩
  · subst h0
    exact ⟨none, 0, rfl, Nat.zero_le _, hl, fun h => absurd h (by omega)⟩
  · refine ⟨_, cap, rfl, by omega, hl, fun _ => ⟨g, 0, rfl, (Array.getElem?_eq_some_iff.1 hg).1, fun k x hx i u hu => ?_⟩⟩
    rw [h.cellAt _ (by have := (List.getElem?_eq_some_iff.1 hx).1; have hi := (List.getElem?_eq_some_iff.1 hu).1; rw [hsz] at hi; have : (k + 1) * size ≤ n * size := Nat.mul_le_mul_right _ (by omega); rw [Nat.succ_mul] at this; omega)]
    rw [Nat.zero_add]
    exact flatMap_at hsz l k x hx i u hu
end
abbrev Ints (w : World) (B : Nat) (A : Option Addr) (n : Nat) (l : List Int) : Prop := Lst (fun x => [Value.int .i64 x]) 1 w B A n l
theorem ints_flat (l : List Int) : l.map (Value.int .i64) = l.flatMap (fun x => [Value.int .i64 x]) := by
  induction l with
  | nil => rfl
  | cons a l ih => rw [List.map_cons, List.flatMap_cons, ih]; rfl
theorem ownsRow_ints {w : World} {base : Nat} {t : TypeId} {v : Value} {n : Nat} {l : List Int} (h : w.ownsRow base t 1 v n (l.map (Value.int .i64))) (hl : l.length = n) :
    ∃ A c, v = .slice A n c ∧ n ≤ maxLen ∧ Ints w w.heap.size A n l := ownsRow_lst (by rw [← ints_flat]; exact h) hl fun _ => rfl
section
variable {α : Type} {enc : α → List Value} {size : Nat} {w : World}
theorem lst_block {g : Nat} {cur : Array Value} {e : TypeId} {fz : Nat × Nat} {l : List α} {n : Nat} (hg : w.heap[g]? = some (.cells cur e fz)) (hc : cur.toList = l.flatMap enc) (hn : l.length = n) (hsz : ∀ x, (enc x).length = size) : Lst enc size w w.heap.size (some ⟨g, 0, none⟩) n l :=
  ⟨hn, fun _ => ⟨g, 0, rfl, (Array.getElem?_eq_some_iff.1 hg).1, fun k x hx i u hu => by
    have h := flatMap_at hsz l k x hx i u hu
    rw [← hc, Array.getElem?_toList] at h
    rw [Nat.zero_add, cell_of_row w g _ _ _ _ hg, h]⟩⟩
theorem Lst.take {B : Nat} {A : Option Addr} {n : Nat} {l : List α} (h : Lst enc size w B A n l) {k : Nat} (hk : k ≤ n) : Lst enc size w B A k (l.take k) :=
  ⟨by rw [List.length_take, h.1]; omega, fun h0 => by
    obtain ⟨b, off, e, hb, hc⟩ := h.2 (by omega)
    exact ⟨b, off, e, hb, fun j x hx => hc j x (by
      have hj := (List.getElem?_eq_some_iff.1 hx).1
      rw [List.length_take] at hj
      rw [← hx, List.getElem?_take_of_lt (by omega)])⟩⟩
theorem Lst.nil {B : Nat} : Lst enc size w B none 0 [] := ⟨rfl, fun h => absurd h (by omega)⟩
end
theorem flatMap_get {α : Type} {enc : α → List Value} {size : Nat} (hsz : ∀ x, (enc x).length = size) {l : List α} {j : Nat} {u : Value} (h : (l.flatMap enc)[j]? = some u) :
    ∃ k x, l[k]? = some x ∧ j = k * size + j % size ∧ (enc x)[j % size]? = some u := by
  have hj := (List.getElem?_eq_some_iff.1 h).1
  rw [flatMap_length hsz] at hj
  have h0 : 0 < size := Nat.pos_of_ne_zero fun e => by subst e; simp at hj
  have hk : j / size < l.length := (Nat.div_lt_iff_lt_mul h0).2 hj
  have he : j = j / size * size + j % size := by rw [Nat.mul_comm]; exact (Nat.div_add_mod j size).symm
  have hm : j % size < (enc l[j / size]).length := by rw [hsz]; exact Nat.mod_lt _ h0
  have := flatMap_at hsz l (j / size) l[j / size] (List.getElem?_eq_getElem hk) (j % size) _ (List.getElem?_eq_getElem hm)
  rw [← he, h] at this
  exact ⟨j / size, _, List.getElem?_eq_getElem hk, he, by rw [this]; exact List.getElem?_eq_getElem hm⟩
theorem Lst.flat {α : Type} {enc : α → List Value} {size : Nat} {w : World} {B n : Nat} {ad : Addr} {l : List α} (h : Lst enc size w B (some ad) n l) (hsz : ∀ x, (enc x).length = size) :
    ∀ j u, (l.flatMap enc)[j]? = some u → w.cell? (ad.add j) = some u := by
  intro j u hu
  obtain ⟨k, x, hx, hj, hu'⟩ := flatMap_get hsz hu
  have hk := (List.getElem?_eq_some_iff.1 hx).1
  obtain ⟨b, off, e, hb, hc⟩ := h.2 (by have := h.1; omega)
  cases e
  have := hc k x hx _ u hu'
  rw [show (⟨b, off, none⟩ : Addr).add j = ⟨b, off + k * size + j % size, none⟩ by
    simp only [Addr.add]
    have e : off + j = off + k * size + j % size := by omega
    cases j with
    | zero => simp at e ⊢; omega
    | succ j => rw [if_neg (Nat.succ_ne_zero j), e]]
  exact this
theorem cells_newL (w : World) (cs : List Value) (t : TypeId) : ∀ j u, cs[j]? = some u → (w.alloc (.cells cs.toArray t)).cell? ((⟨w.heap.size, 0, none⟩ : Addr).add j) = some u := by
  intro j u h
  rw [show ((⟨w.heap.size, 0, none⟩ : Addr).add j) = ⟨w.heap.size, j, none⟩ by simp only [Addr.add, Nat.zero_add]; cases j <;> rfl, cell_of_row _ _ _ _ _ _ (heap_alloc_new w _)]
  simpa using h
end Go.Proofs.YtchggapclmdpaaaGreatDoor
namespace Go.Proofs.YtchggapclmdpaaaGreatDoor
open Go.RowKit Go.Lib

/-- A label, as the program has it. -/
def Lb.cells (x : Lb) : List Value := [.string x.nm, .string x.vl]
theorem Lb.len (x : Lb) : x.cells.length = 2 := rfl
theorem less_self (x : List UInt8) : Op.bytesLess x x = false := by
  rw [bytesLess_lex, (lexC_cmp3 byteC_cmp3).self]
  decide
theorem less_ne {x y : List UInt8} (h : Op.bytesLess x y = true) : (x == y) = false := by
  rw [beq_eq_false_iff_ne]
  rintro rfl
  rw [less_self] at h
  cases h
theorem less_eq {x y : List UInt8} (h : Op.bytesLess x y = false) (g : Op.bytesLess y x = false) : (x == y) = true := by
  rw [beq_iff_eq, ← lexC_zero byteC_cmp3]
  rw [bytesLess_lex] at h g
  have h1 := of_decide_eq_false h
  have h2 := of_decide_eq_false g
  have h3 := lexC_swap byteC_cmp3 x y
  omega
theorem compare_str (x y : ByteArray) (w : World) : Calls Tryz.prog 67 #[.string x, .string y] w fun e w' => e = .returned (.int .i64 (textC x y)) ∧ w' = w := by
  have nx : (x.toList == x.toList) = true := by simp
  have ny : (y.toList == y.toList) = true := by simp
  unfold textC
  cases h1 : Op.bytesLess x.toList y.toList with
  | true =>
    rw [if_pos rfl]
    go_enter Tryz.func67, Tryz.ntmps67
    go_wp2
    go_ret
    exact ⟨rfl, rfl⟩
  | false =>
    rw [if_neg (by decide)]
    cases h2 : Op.bytesLess y.toList x.toList with
    | true =>
      have h3 : (x.toList == y.toList) = false := by rw [Bool.beq_comm]; exact less_ne h2
      rw [if_pos rfl]
      go_enter Tryz.func67, Tryz.ntmps67
      go_wp2
      go_ret
      exact ⟨rfl, rfl⟩
    | false =>
      have h3 := less_eq h1 h2
      rw [if_neg (by decide)]
      go_enter Tryz.func67, Tryz.ntmps67
      go_wp2
      go_ret
      exact ⟨rfl, rfl⟩
/-- The first of two that is not 0. -/
def orC (a b : Int) : Int := if a = 0 then b else a
theorem or_two (a b : Int) (g : Nat) (w : World) (h0 : w.cell? ⟨g, 0, none⟩ = some (.int .i64 a)) (h1 : w.cell? ⟨g, 1, none⟩ = some (.int .i64 b)) : Calls Tryz.prog 66 #[.slice (some ⟨g, 0, none⟩) 2 2] w fun e w' => e = .returned (.int .i64 (orC a b)) ∧ w' = w := by
  unfold orC
  by_cases ha : a = 0
  · subst ha
    rw [if_pos rfl]
    by_cases hb : b = 0
    · subst hb
      go_enter Tryz.func66, Tryz.ntmps66
      go_wp2
      refine wp_loop_rounds 3 ?_
      rw [rounds_succ]
      go_wp2
      rw [rounds_succ]
      go_wp2
      rw [rounds_succ]
      go_wp2
      go_ret
      exact ⟨rfl, rfl⟩
    · have z1 : (b != 0) = true := by rw [bne_iff_ne]; exact hb
      go_enter Tryz.func66, Tryz.ntmps66
      go_wp2
      refine wp_loop_rounds 3 ?_
      rw [rounds_succ]
      go_wp2
      rw [rounds_succ]
      go_wp2
      go_ret
      exact ⟨rfl, rfl⟩
  · have z1 : (a != 0) = true := by rw [bne_iff_ne]; exact ha
    rw [if_neg ha]
    go_enter Tryz.func66, Tryz.ntmps66
    go_wp2
    refine wp_loop_rounds 3 ?_
    rw [rounds_succ]
    go_wp2
    go_ret
    exact ⟨rfl, rfl⟩
set_option maxHeartbeats 2000000 in
set_option maxRecDepth 100000 in
theorem labelCmp (x y : Lb) (W : World) : Calls Tryz.prog 65 #[.agg #[.string x.nm, .string x.vl], .agg #[.string y.nm, .string y.vl]] W fun e w' => e = .returned (.int .i64 (labelC x y)) ∧ Below W.heap.size W w' := by
  have hlc : labelC x y = orC (textC x.nm y.nm) (textC x.vl y.vl) := rfl
  rw [hlc]
  clear hlc
  go_enter Tryz.func65, Tryz.ntmps65
  go_wp2_with fail
  have hbx : Below W.heap.size W ((W.alloc (.cells #[.string x.nm, .string x.vl] 94)).alloc (.cells #[.string y.nm, .string y.vl] 94)) := ((Below.refl _ _).alloc (Nat.le_refl _) _).alloc (by simp) _
  have hx0 : ((W.alloc (.cells #[.string x.nm, .string x.vl] 94)).alloc (.cells #[.string y.nm, .string y.vl] 94)).cell? ⟨W.heap.size, 0, none⟩ = some (.string x.nm) := by simp
  have hx1 : ((W.alloc (.cells #[.string x.nm, .string x.vl] 94)).alloc (.cells #[.string y.nm, .string y.vl] 94)).cell? ⟨W.heap.size, 1, none⟩ = some (.string x.vl) := by simp
  have hy0 : ((W.alloc (.cells #[.string x.nm, .string x.vl] 94)).alloc (.cells #[.string y.nm, .string y.vl] 94)).cell? ⟨W.heap.size + 1, 0, none⟩ = some (.string y.nm) := by simp
  have hy1 : ((W.alloc (.cells #[.string x.nm, .string x.vl] 94)).alloc (.cells #[.string y.nm, .string y.vl] 94)).cell? ⟨W.heap.size + 1, 1, none⟩ = some (.string y.vl) := by simp
  have hs : ((W.alloc (.cells #[.string x.nm, .string x.vl] 94)).alloc (.cells #[.string y.nm, .string y.vl] 94)).heap.size = W.heap.size + 2 := by simp
  generalize (W.alloc (.cells #[.string x.nm, .string x.vl] 94)).alloc (.cells #[.string y.nm, .string y.vl] 94) = w1 at hbx hx0 hx1 hy0 hy1 hs ⊢
  have H := Lib.hid (show _ ∧ _ from ⟨hbx, hs⟩)
  have n0 : W.heap.size ≠ w1.heap.size := by omega
  have n1 : W.heap.size + 1 ≠ w1.heap.size := by omega
  have n0' : w1.heap.size ≠ W.heap.size := by omega
  have n1' : w1.heap.size ≠ W.heap.size + 1 := by omega
  clear hbx hs
  go_region_held3 (fun w' => w'.cell? ⟨W.heap.size, 0, none⟩ = some (.string x.nm) ∧ w'.cell? ⟨W.heap.size, 1, none⟩ = some (.string x.vl) ∧ w'.cell? ⟨W.heap.size + 1, 0, none⟩ = some (.string y.nm) ∧ w'.cell? ⟨W.heap.size + 1, 1, none⟩ = some (.string y.vl)) (go_keep)
    (first | (go_at_call 66; refine (or_two (textC x.nm y.nm) (textC x.vl y.vl) _ _ (by simp) (by simp)).mono ?_; rintro e w' ⟨rfl, rfl⟩) | (go_at_call 67; refine (compare_str _ _ _).mono ?_; rintro e w' ⟨rfl, rfl⟩))
  all_goals
    go_wp2
    go_ret
    exact ⟨rfl, (H.out.1.alloc (by have := H.out.2; omega) _).drew⟩
theorem lexC_drop {c : Lb → Lb → Int} {la lb : List Lb} {k : Nat} {x y : Lb} (hx : la[k]? = some x) (hy : lb[k]? = some y) : lexC c (la.drop k) (lb.drop k) = if c x y = 0 then lexC c (la.drop (k + 1)) (lb.drop (k + 1)) else c x y := by
  obtain ⟨h1, e1⟩ := List.getElem?_eq_some_iff.1 hx
  obtain ⟨h2, e2⟩ := List.getElem?_eq_some_iff.1 hy
  rw [List.drop_eq_getElem_cons h1, List.drop_eq_getElem_cons h2, e1, e2, lexC]
set_option maxHeartbeats 2000000 in
set_option maxRecDepth 100000 in
theorem compareFunc_any (A A' : Option Addr) (n c n' c' : Nat) (la lb : List Lb) (w : World) (hA : Lst Lb.cells 2 w w.heap.size A n la) (hB : Lst Lb.cells 2 w w.heap.size A' n' lb) (hn : n ≤ 1099511627776) (_hn' : n' ≤ 1099511627776) :
    Calls Tryz.prog 64 #[.slice A n c, .slice A' n' c', .func (.func 65) #[] #[]] w fun e w' => e = .returned (.int .i64 (labelsC la lb)) ∧ Below w.heap.size w w' := by
  have HA := Lib.hid (show _ ∧ _ from ⟨hA, hB⟩)
  clear hA hB
  go_enter Tryz.func64, Tryz.ntmps64
  go_wp2
  go_loopw [7, 8, 9, 10, 13] (fun _ _ _ _ iv wr => ∃ k : Nat, k ≤ n ∧ iv = .int .i64 k ∧ Hid (labelsC la lb = lexC labelC (la.drop k) (lb.drop k)) ∧ Below w.heap.size w wr ∧ k ≤ n') (fun _ _ _ _ iv _ => n - (intOf iv).toNat)
  case atStart => exact ⟨0, Nat.zero_le _, rfl, Lib.hid rfl, Below.refl _ _, Nat.zero_le _⟩
  case round =>
    obtain ⟨k, hk, rfl, HE, hbl, hk'⟩ := hrel
    have hsz := hbl.size
    by_cases hlt : k < n
    · obtain ⟨b, off, x, rfl, hb, hx, hc⟩ := HA.out.1.at hlt
      have c0 := (hbl.cell (p := ⟨b, off + k * 2 + 0, none⟩) hb).trans (hc 0 _ rfl)
      have c1 := (hbl.cell (p := ⟨b, off + k * 2 + 1, none⟩) hb).trans (hc 1 _ rfl)
      simp only [Nat.add_zero] at c0
      have i1 : (0 : Int) ≤ (k : Int) := by omega
      have i2 : (k : Int) < (n : Int) := by omega
      by_cases hlt2 : k < n'
      · obtain ⟨b', off', y, rfl, hb', hy, hc'⟩ := HA.out.2.at hlt2
        have d0 := (hbl.cell (p := ⟨b', off' + k * 2 + 0, none⟩) hb').trans (hc' 0 _ rfl)
        have d1 := (hbl.cell (p := ⟨b', off' + k * 2 + 1, none⟩) hb').trans (hc' 1 _ rfl)
        simp only [Nat.add_zero] at d0
        have i3 : (k : Int) < (n' : Int) := by omega
        have n0 : b' ≠ wr.heap.size := by omega
        have n0' : wr.heap.size ≠ b' := by omega
        have n1 : b' < wr.heap.size := by omega
        have hdr := lexC_drop (c := labelC) hx hy
        have HD := Lib.hid (show _ ∧ _ from ⟨hdr, HE.out⟩)
        have hcall := fun W' => labelCmp x y W'
        obtain ⟨cv, hcv⟩ : ∃ cv, labelC x y = cv := ⟨_, rfl⟩
        rw [hcv] at HD
        have hcall2 : ∀ W', Calls Tryz.prog 65 #[.agg #[.string x.nm, .string x.vl], .agg #[.string y.nm, .string y.vl]] W' fun e w' => e = .returned (.int .i64 cv) ∧ Below W'.heap.size W' w' := by rw [← hcv]; exact hcall
        have HC := Lib.hid hcall2
        clear hcall hcall2 hcv hc hc' hx hy hdr HE
        by_cases hz : cv = 0
        · subst hz
          go_wp2_with fail
          refine (HC.out _).mono ?_
          rintro e w2 ⟨rfl, hb2⟩
          have hb3 : Below w.heap.size w w2 := ((hbl.alloc hsz _).alloc (by simp; omega) _).trans (hb2.mono (by simp; omega))
          have HB := Lib.hid hb3
          clear hb2 hb3 c0 c1 d0 d1
          go_wp2
          go_roundw
          case measure => simp [intOf]; omega
          case rel => exact ⟨k + 1, hlt, by simp, Lib.hid (by rw [HD.out.2, HD.out.1]; simp), HB.out, hlt2⟩
        · have z1 : (cv != 0) = true := by rw [bne_iff_ne]; exact hz
          go_wp2_with fail
          refine (HC.out _).mono ?_
          rintro e w2 ⟨rfl, hb2⟩
          have hb3 : Below w.heap.size w w2 := ((hbl.alloc hsz _).alloc (by simp; omega) _).trans (hb2.mono (by simp; omega))
          have HB := Lib.hid hb3
          clear hb2 hb3 c0 c1 d0 d1
          go_wp2
          go_ret
          exact ⟨by rw [HD.out.2, HD.out.1, if_neg hz]; rfl, HB.out⟩
      · have i3 : ¬ (k : Int) < (n' : Int) := by omega
        have i4 : (n' : Int) ≤ (k : Int) := by omega
        have he : labelsC la lb = 1 := by
          rw [HE.out, List.drop_eq_nil_of_le (by have := HA.out.2.1; omega : lb.length ≤ k)]
          obtain ⟨h1, e1⟩ := List.getElem?_eq_some_iff.1 hx
          rw [List.drop_eq_getElem_cons h1]
          rfl
        have HX := Lib.hid he
        clear he hc hx HE
        go_wp2
        go_ret
        exact ⟨by rw [HX.out]; rfl, hbl.alloc hsz _⟩
    · obtain rfl : k = n := by omega
      have hda : la.drop k = [] := List.drop_eq_nil_of_le (by have := HA.out.1.1; omega)
      by_cases hlt2 : k < n'
      · have i3 : (k : Int) < (n' : Int) := by omega
        have he : labelsC la lb = -1 := by
          rw [HE.out, hda, List.drop_eq_getElem_cons (by have := HA.out.2.1; omega)]
          rfl
        have HX := Lib.hid he
        clear he hda HE
        go_wp2
        go_ret
        exact ⟨by rw [HX.out]; rfl, hbl⟩
      · have i3 : ¬ (k : Int) < (n' : Int) := by omega
        have he : labelsC la lb = 0 := by
          rw [HE.out, hda, List.drop_eq_nil_of_le (by have := HA.out.2.1; omega)]
          rfl
        have HX := Lib.hid he
        clear he hda HE
        go_wp2
        go_ret
        exact ⟨by rw [HX.out]; rfl, hbl⟩
theorem labelsCmp_any (A A' : Option Addr) (n c n' c' : Nat) (la lb : List Lb) (w : World) (hA : Lst Lb.cells 2 w w.heap.size A n la) (hB : Lst Lb.cells 2 w w.heap.size A' n' lb) (hn : n ≤ 1099511627776) (hn' : n' ≤ 1099511627776) :
    Calls Tryz.prog 21 #[.slice A n c, .slice A' n' c'] w fun e w' => e = .returned (.int .i64 (labelsC la lb)) ∧ Below w.heap.size w w' := by
  have HC := Lib.hid (compareFunc_any A A' n c n' c' la lb w hA hB hn hn')
  clear hA hB
  go_enter Tryz.func21, Tryz.ntmps21
  go_wp2_with fail
  refine HC.out.mono ?_
  rintro e w' ⟨rfl, hb⟩
  go_wp2
  go_ret
  exact ⟨rfl, hb⟩
end Go.Proofs.YtchggapclmdpaaaGreatDoor
namespace Go.Proofs.YtchggapclmdpaaaGreatDoor
open Go.RowKit Go.Lib

theorem labelsC_len {la lb : List Lb} (h : labelsC la lb = 0) : la.length = lb.length := by rw [(labelsC_cmp3.zero la lb).1 h]
set_option maxHeartbeats 1000000 in
set_option maxRecDepth 100000 in
theorem sameLabels_any (A A' : Option Addr) (n c n' c' : Nat) (la lb : List Lb) (w : World) (hA : Lst Lb.cells 2 w w.heap.size A n la) (hB : Lst Lb.cells 2 w w.heap.size A' n' lb) (hn : n ≤ 1099511627776) (hn' : n' ≤ 1099511627776) :
    Calls Tryz.prog 15 #[.slice A n c, .slice A' n' c'] w fun e w' => e = .returned (.bool (decide (labelsC la lb = 0))) ∧ ∃ q, w' = w.drewN q := by
  by_cases hnn : n = n'
  · subst hnn
    have HA := Lib.hid (show _ ∧ _ from ⟨hA, hB⟩)
    clear hA hB
    go_enter Tryz.func15, Tryz.ntmps15
    go_wp2
    go_loopw [5] (fun iv wr => ∃ k q : Nat, k ≤ n ∧ iv = .int .i64 k ∧ wr = w.drewN q ∧ Hid (labelsC la lb = lexC labelC (la.drop k) (lb.drop k))) (fun iv _ => n - (intOf iv).toNat)
    case atStart => exact ⟨0, 0, Nat.zero_le _, rfl, rfl, Lib.hid rfl⟩
    case round =>
      obtain ⟨k, q, hk, rfl, rfl, HE⟩ := hrel
      by_cases hlt : k < n
      · obtain ⟨b, off, x, rfl, hb, hx, hc⟩ := HA.out.1.at hlt
        obtain ⟨b', off', y, rfl, hb', hy, hc'⟩ := HA.out.2.at hlt
        have c0 := hc 0 _ rfl
        have c1 := hc 1 _ rfl
        have d0 := hc' 0 _ rfl
        have d1 := hc' 1 _ rfl
        simp only [Nat.add_zero] at c0 d0
        have i1 : (0 : Int) ≤ (k : Int) := by omega
        have i2 : (k : Int) < (n : Int) := by omega
        have hdr := lexC_drop (c := labelC) hx hy
        have HD := Lib.hid (show _ ∧ _ from ⟨hdr, HE.out⟩)
        clear hc hc' hx hy hdr HE
        by_cases h1 : x.nm = y.nm
        · have e1 : (x.nm.toList == y.nm.toList) = true := by rw [beq_iff_eq, h1]
          by_cases h2 : x.vl = y.vl
          · have e2 : (x.vl.toList == y.vl.toList) = true := by rw [beq_iff_eq, h2]
            have hxy : x = y := by cases x; cases y; simp_all
            go_wp2_with (go_quiet (fail))
            go_roundw
            case measure => simp [intOf]; omega
            case rel => exact ⟨k + 1, _, hlt, by simp, by first | rfl | exact World.drewN_drewN _ _ _, Lib.hid (by rw [HD.out.2, HD.out.1, if_pos ((labelC_cmp3.zero x y).2 hxy)])⟩
          · have e2 : (x.vl.toList == y.vl.toList) = false := by rw [beq_eq_false_iff_ne]; exact fun h => h2 (toList_inj h)
            have hxy : ¬ labelC x y = 0 := fun h => h2 (by rw [(labelC_cmp3.zero x y).1 h])
            go_wp2_with (go_quiet (fail))
            go_ret
            exact ⟨by rw [decide_eq_false (by rw [HD.out.2, HD.out.1, if_neg hxy]; exact hxy)]; rfl, _, by first | rfl | exact World.drewN_drewN _ _ _⟩
        · have e1 : (x.nm.toList == y.nm.toList) = false := by rw [beq_eq_false_iff_ne]; exact fun h => h1 (toList_inj h)
          have hxy : ¬ labelC x y = 0 := fun h => h1 (by rw [(labelC_cmp3.zero x y).1 h])
          go_wp2_with (go_quiet (fail))
          go_ret
          exact ⟨by rw [decide_eq_false (by rw [HD.out.2, HD.out.1, if_neg hxy]; exact hxy)]; rfl, _, by first | rfl | exact World.drewN_drewN _ _ _⟩
      · have he : labelsC la lb = 0 := by
          rw [HE.out, List.drop_eq_nil_of_le (by have := HA.out.1.1; omega), List.drop_eq_nil_of_le (by have := HA.out.2.1; omega)]
          rfl
        have HX := Lib.hid he
        clear he HE
        go_wp2
        go_ret
        exact ⟨by rw [decide_eq_true HX.out]; rfl, q, rfl⟩
  · have he : ¬ labelsC la lb = 0 := fun h => hnn (by rw [← hA.1, ← hB.1]; exact labelsC_len h)
    have hne : ¬ (n : Int) = (n' : Int) := by omega
    have HX := Lib.hid he
    clear hA hB he
    go_enter Tryz.func15, Tryz.ntmps15
    go_wp2
    go_ret
    exact ⟨by rw [decide_eq_false HX.out]; rfl, 0, rfl⟩
end Go.Proofs.YtchggapclmdpaaaGreatDoor
namespace Go.Proofs.YtchggapclmdpaaaGreatDoor
open Go.RowKit Go.Lib

section
variable {P : Program} (w : World)
theorem run_append_full (t ty : TypeId) (base : Nat) (e : TypeId) (i : TypeInfo) (z : Value) (size bytes : Nat) (ht : P.underlying t = some (.slice e)) (hi : P.info? e = some i) (hz : i.zero = some z)
    (hsize : i.size = size) (hby : i.bytes = bytes) (hzs : z.cells.size = size) (hsz : 0 < size)
    (v : Value) (n : Nat) (xs : List Value) (hown : w.ownsRow base e size v n xs)
    (ad : Addr) (m c : Nat) (news : List Value) (hl : news.length = m * size) (hnews : ∀ j u, news[j]? = some u → w.cell? (ad.add j) = some u) (h1 : ∀ u ∈ news, u.oneCell' = true)
    (hm : 0 < m) (h63 : n + m ≤ maxLen) (hbytes : (n + m) * bytes ≤ 140737488355328) (hbase : base ≤ w.heap.size) :
    ∃ g cap w', (Builtin.append_ #[t, t] ty #[v, .slice (some ad) m c]).run P w = .ok (.slice (some ⟨g, 0, none⟩) (n + m) cap) w' ∧
      w'.ownsRow base e size (.slice (some ⟨g, 0, none⟩) (n + m) cap) (n + m) (xs ++ news) ∧ w.grownBy w' v.ownBlock ∧ (v.ownBlock = some g ∨ g = w.heap.size) ∧
      (∀ k, v.ownBlock = some k → ∀ j u, xs[j]? = some u → w'.cell? ⟨k, j, none⟩ = some u) := by
  obtain ⟨g, cap, w', hr, h2, h3, h4, h5⟩ := run_append_lies (P := P) w t ty base e i z size bytes ht hi hz hsize hby hzs hsz v n xs hown ad m c news hl hnews h1 hm h63 hbytes hbase _ rfl
  refine ⟨g, cap, w', hr, h2, h3, h4, ?_⟩
  intro k hk j u hu
  have hadd : ∀ b, (⟨b, 0, none⟩ : Addr).add j = ⟨b, j, none⟩ := fun b => by unfold Addr.add; split <;> simp_all
  have hj : j < xs.length := (List.getElem?_eq_some_iff.1 hu).1
  rcases h4 with h4 | h4
  · obtain rfl : k = g := by rw [hk] at h4; exact Option.some.inj h4
    have := h2.cells (g := k) rfl j u (by rw [List.getElem?_append_left hj]; exact hu)
    rwa [hadd] at this
  · -- a block of its own: the old row is as it was
    rcases hown.2 with ⟨rfl, _⟩ | ⟨g', cap', cur, rfl, hb, hg, hnc, hcm, hcs, htake⟩
    · cases hk
    · obtain rfl : g' = k := by simpa [Value.ownBlock] using hk
      have hlt : g' < w.heap.size := (Array.getElem?_eq_some_iff.1 hg).1
      have hcell := hown.cells (g := g') rfl j u hu
      rw [hadd] at hcell
      by_cases hroom : n + m ≤ cap'
      · exfalso
        have hr2 := run_append_room (P := P) (ty := ty) w t e i ht hi g' n cap' cur hg ad m c news (by rw [hl, hsize]) hnews h1 hroom (by rw [hl, hcs, hsize, ← Nat.add_mul]; exact Nat.mul_le_mul_right _ hroom)
        have := hr.symm.trans hr2
        simp at this
      · have hr2 := run_append_grow (P := P) (ty := ty) w t e i z ht hi hz ⟨g', 0, none⟩ n cap' xs (by rw [hown.1, hsize]) (hown.cells (g := g') rfl) ad m c news (by rw [hl, hsize]) hnews (by omega) (by simp only [maxLen] at h63; omega) (growslice_fits (by omega) (by rw [hby]; exact hbytes))
        have he := hr.symm.trans hr2
        injection he with _ e2
        rw [e2]
        exact (World.cell?_of_block (w := w) (heap_alloc_old w.drew _ hlt)).trans hcell
theorem wpList_append_full {ops : Array Oper} {rest : List Oper} {o : Oper} {a : Act} {Q : Exit → Act → World → Prop} (hgd : o.guard = none) (s x : Operand) (t : TypeId)
    (ho : o.op = .call { callee := .builtin .append, args := #[s, x], argTypes := #[t, t] })
    (base : Nat) (e : TypeId) (i : TypeInfo) (z : Value) (size bytes : Nat) (ht : P.underlying t = some (.slice e)) (hi : P.info? e = some i) (hz : i.zero = some z)
    (hsize : i.size = size) (hby : i.bytes = bytes) (hzs : z.cells.size = size) (hsz : 0 < size)
    (v : Value) (n : Nat) (xs : List Value) (hs : a.eval s = v) (hown : w.ownsRow base e size v n xs)
    (ad : Addr) (m c : Nat) (news : List Value) (hx : a.eval x = .slice (some ad) m c) (hl : news.length = m * size) (hnews : ∀ j u, news[j]? = some u → w.cell? (ad.add j) = some u) (h1 : ∀ u ∈ news, u.oneCell' = true)
    (hm : 0 < m) (h63 : n + m ≤ maxLen) (hbytes : (n + m) * bytes ≤ 140737488355328) (hbase : base ≤ w.heap.size)
    (h : ∀ g cap w', w'.ownsRow base e size (.slice (some ⟨g, 0, none⟩) (n + m) cap) (n + m) (xs ++ news) → w.grownBy w' v.ownBlock → (v.ownBlock = some g ∨ g = w.heap.size) →
      (∀ k, v.ownBlock = some k → ∀ j u, xs[j]? = some u → w'.cell? ⟨k, j, none⟩ = some u) → wpList P ops Q rest (a.put o.dst (.slice (some ⟨g, 0, none⟩) (n + m) cap)) w') :
    wpList P ops Q (o :: rest) a w := by
  refine wpList_plain hgd fun K hK => ?_
  obtain ⟨g, cap, w', hr, h2, h3, h4, h5⟩ := run_append_full (P := P) w t o.type base e i z size bytes ht hi hz hsize hby hzs hsz v n xs hown ad m c news hl hnews h1 hm h63 hbytes hbase
  unfold Oper.wp execOp
  simp only [ho, resolve, invoke, builtin, Sem.run_bind, Sem.run_pure, Result.andThen_ok, List.map_toArray, List.map_cons, List.map_nil, hs, hx, hr]
  exact hK _ _ (h g cap w' h2 h3 h4 h5)
end

/-- w' is w but for new blocks and the blocks of S. -/
structure GrownIn (S : Nat → Prop) (w w' : World) : Prop where
  os : w'.os = w.os
  tape : w'.tape = w.tape
  output : w'.output = w.output
  size : w.heap.size ≤ w'.heap.size
  block : ∀ k, k < w.heap.size → ¬ S k → w'.heap[k]? = w.heap[k]?
section
variable {S T : Nat → Prop} {a w w' : World}
theorem GrownIn.refl (S : Nat → Prop) (w : World) : GrownIn S w w := ⟨rfl, rfl, rfl, Nat.le_refl _, fun _ _ _ => rfl⟩
theorem GrownIn.mono (h : GrownIn S w w') (hs : ∀ k, k < w.heap.size → S k → T k) : GrownIn T w w' := ⟨h.os, h.tape, h.output, h.size, fun k hk hn => h.block k hk fun hs' => hn (hs k hk hs')⟩
theorem GrownIn.trans (h : GrownIn S a w) (g : GrownIn T w w') (hs : ∀ k, k < a.heap.size → T k → S k) : GrownIn S a w' :=
  ⟨g.os.trans h.os, g.tape.trans h.tape, g.output.trans h.output, Nat.le_trans h.size g.size, fun k hk hn =>
    (g.block k (Nat.lt_of_lt_of_le hk h.size) fun ht => hn (hs k hk ht)).trans (h.block k hk hn)⟩
theorem GrownIn.of_grownBy {r : Option Nat} (h : w.grownBy w' r) : GrownIn (fun k => r = some k) w w' :=
  ⟨h.os, h.tape, h.output, h.size, fun k hk hn => h.block k hk fun e => hn e.symm⟩
theorem GrownIn.of_below {B : Nat} (h : Below B w w') : GrownIn (fun k => B ≤ k) w w' :=
  ⟨h.os, h.tape, h.output, h.size, fun k _ hn => h.block k (by omega)⟩
theorem GrownIn.below {B : Nat} (h : GrownIn S w w') (hs : ∀ k, S k → B ≤ k) (hB : B ≤ w.heap.size) : Below B w w' :=
  ⟨h.os, h.tape, h.output, h.size, fun k hk => h.block k (by omega) fun hsk => by have := hs k hsk; omega⟩
theorem GrownIn.cell (h : GrownIn S w w') {p : Addr} {v : Value} (hc : w.cell? p = some v) (hn : ¬ S p.block) : w'.cell? p = some v :=
  (World.cell?_of_block (h.block p.block (World.block_lt_of_cell? w p hc) hn)).trans hc
theorem GrownIn.owns {base : Nat} {e : TypeId} {size : Nat} {v : Value} {n : Nat} {xs : List Value} (g : GrownIn S w w') (h : w.ownsRow base e size v n xs) (hn : ∀ k, v.ownBlock = some k → ¬ S k) : w'.ownsRow base e size v n xs := by
  refine ⟨h.1, ?_⟩
  rcases h.2 with h2 | ⟨b, cap, cur, rfl, hb, hg, rest⟩
  · exact .inl h2
  · refine .inr ⟨b, cap, cur, rfl, hb, ?_, rest⟩
    rw [g.block b (Array.getElem?_eq_some_iff.1 hg).1 (hn b rfl)]
    exact hg
theorem GrownIn.alloc (h : GrownIn S a w) (o : Obj) : GrownIn S a (w.alloc o) :=
  h.trans (GrownIn.of_grownBy (World.grownBy_alloc w o none)) (fun _ _ e => by cases e)
theorem GrownIn.drewN (h : GrownIn S a w) (n : Nat) : GrownIn S a (w.drewN n) := ⟨h.os, h.tape, h.output, h.size, h.block⟩
end
end Go.Proofs.YtchggapclmdpaaaGreatDoor
namespace Go.Proofs.YtchggapclmdpaaaGreatDoor
open Go.RowKit Go.Lib

theorem take_set_next {α : Type} (xs : List α) (o : Nat) (a : α) (h : o < xs.length) : (xs.set o a).take (o + 1) = xs.take o ++ [a] := by
  rw [List.take_succ_eq_append_getElem (by simpa using h), List.take_set_of_le (Nat.le_refl _)]
  simp

/-- The marks of list i, the first n elements. -/
def marks (f : Int → Nat → List Value) (i : Int) (n : Nat) : List Value := (List.range n).flatMap (f i)
theorem marks_zero (f : Int → Nat → List Value) (i : Int) : marks f i 0 = [] := rfl
theorem marks_succ (f : Int → Nat → List Value) (i : Int) (n : Nat) : marks f i (n + 1) = marks f i n ++ f i n := by
  unfold marks
  rw [List.range_succ, List.flatMap_append]
  simp
section
variable {f : Int → Nat → List Value} {sz : Nat} (hf : ∀ i k, (f i k).length = sz)
include hf
theorem marks_length (i : Int) (n : Nat) : (marks f i n).length = n * sz := by
  induction n with
  | zero => simp [marks]
  | succ n ih => rw [marks_succ, List.length_append, ih, hf, Nat.succ_mul]
theorem marks_at (i : Int) (n k j : Nat) (u : Value) (hk : k < n) (hu : (f i k)[j]? = some u) : (marks f i n)[k * sz + j]? = some u := by
  induction n with
  | zero => omega
  | succ n ih =>
    have hj : j < sz := by have := (List.getElem?_eq_some_iff.1 hu).1; rwa [hf] at this
    rw [marks_succ]
    by_cases h : k < n
    · rw [List.getElem?_append_left (by rw [marks_length hf]; have : (k + 1) * sz ≤ n * sz := Nat.mul_le_mul_right _ h; rw [Nat.succ_mul] at this; omega)]
      exact ih h
    · obtain rfl : k = n := by omega
      rw [List.getElem?_append_right (by rw [marks_length hf]; omega), marks_length hf, Nat.add_sub_cancel_left]
      exact hu
end

/-- The list of lists lies in block BL; each is a row of the call's own; no two share memory. -/
structure Lists (w : World) (B : Nat) (e : TypeId) (sz BL m : Nat) (V : Nat → Value) (N : Nat → Nat) : Prop where
  row : ∀ j, j < m → w.cell? ⟨BL, j, none⟩ = some (V j)
  own : ∀ j, j < m → ∃ xs, w.ownsRow B e sz (V j) (N j) xs
  apart : ∀ i j, i < m → j < m → i ≠ j → ∀ g, (V i).ownBlock = some g → (V j).ownBlock ≠ some g
  off : ∀ j, j < m → (V j).ownBlock ≠ some BL
/-- The blocks of those lists. -/
def Among (m : Nat) (V : Nat → Value) (k : Nat) : Prop := ∃ j, j < m ∧ (V j).ownBlock = some k
theorem owns_slice {w : World} {B : Nat} {e : TypeId} {sz n : Nat} {v : Value} {xs : List Value} (h : w.ownsRow B e sz v n xs) : ∃ A c, v = .slice A n c ∧ n ≤ c ∧ c ≤ maxLen := by
  rcases h.2 with ⟨rfl, rfl⟩ | ⟨g, cap, cur, rfl, _, _, h1, h2, _⟩
  · exact ⟨none, 0, rfl, Nat.le_refl _, Nat.zero_le _⟩
  · exact ⟨_, cap, rfl, h1, h2⟩
section
variable {w0 w wo wz wr : World} {B sz BL m : Nat} {e : TypeId} {V : Nat → Value} {N : Nat → Nat} {f : Int → Nat → List Value}
theorem Lists.slice (h : Lists w B e sz BL m V N) {j : Nat} (hj : j < m) : ∃ A c, V j = .slice A (N j) c ∧ N j ≤ c ∧ c ≤ maxLen := by
  obtain ⟨xs, hx⟩ := h.own j hj
  exact owns_slice hx
theorem Lists.lt (h : Lists w B e sz BL m V N) {j g : Nat} (hj : j < m) (hg : (V j).ownBlock = some g) : B ≤ g ∧ g < w.heap.size := by
  obtain ⟨xs, hx⟩ := h.own j hj
  exact hx.lt g hg
/-- The lists are still there in a world that has turned at one list's row, and owns it still. -/
theorem Lists.turn (h : Lists wo B e sz BL m V N) {k : Nat} (hk : k < m) (hg : wo.grownBy wz (V k).ownBlock) {xs : List Value} (hx : wz.ownsRow B e sz (V k) (N k) xs) : Lists wz B e sz BL m V N where
  row j hj := (World.cell?_of_block (w := wo) (hg.block BL (World.block_lt_of_cell? wo _ (h.row j hj)) (fun e => h.off k hk e.symm))).trans (h.row j hj)
  own j hj := by
    by_cases hjk : j = k
    · subst hjk; exact ⟨xs, hx⟩
    · obtain ⟨ys, hy⟩ := h.own j hj
      refine ⟨ys, hy.kept hg ?_⟩
      cases hv : (V j).ownBlock with
      | none => exact .inl rfl
      | some g => exact .inr fun e => h.apart j k hj hk hjk g hv e.symm
  apart := h.apart
  off := h.off
/-- The first loop's head: the first k lists bear their marks. -/
structure Marked (f : Int → Nat → List Value) (w0 w : World) (B : Nat) (e : TypeId) (sz BL m : Nat) (V : Nat → Value) (N : Nat → Nat) (k : Nat) : Prop where
  lists : Lists w B e sz BL m V N
  kept : GrownIn (Among m V) w0 w
  done : ∀ j : Nat, j < k → j < m → w.ownsRow B e sz (V j) (N j) (marks f j (N j))
theorem Marked.start (h : Lists w B e sz BL m V N) : Marked f w w B e sz BL m V N 0 := ⟨h, GrownIn.refl _ _, fun _ h => absurd h (by omega)⟩
theorem Marked.step {k : Nat} (h : Marked f w0 wo B e sz BL m V N k) (hk : k < m) (hg : wo.grownBy wz (V k).ownBlock) (hx : wz.ownsRow B e sz (V k) (N k) (marks f k (N k))) : Marked f w0 wz B e sz BL m V N (k + 1) where
  lists := h.lists.turn hk hg hx
  kept := h.kept.trans (GrownIn.of_grownBy hg) (fun b _ hb => ⟨k, hk, hb⟩)
  done j hj hm := by
    by_cases hjk : j = k
    · subst hjk; exact hx
    · refine (h.done j (by omega) hm).kept hg ?_
      cases hv : (V j).ownBlock with
      | none => exact .inl rfl
      | some g => exact .inr fun e => h.lists.apart j k hm hk hjk g hv e.symm
/-- Within list k: the first q elements bear their marks. -/
def Marking (f : Int → Nat → List Value) (wo w : World) (B : Nat) (e : TypeId) (sz : Nat) (v : Value) (n : Nat) (i : Int) (q : Nat) : Prop :=
  wo.grownBy w v.ownBlock ∧ ∃ xs, w.ownsRow B e sz v n xs ∧ xs.take (q * sz) = marks f i q
theorem grownBy_refl (w : World) (r : Option Nat) : w.grownBy w r := ⟨rfl, rfl, rfl, Nat.le_refl _, fun _ _ _ => rfl⟩
theorem grownBy_trans {a w w' : World} {r : Option Nat} (h : a.grownBy w r) (g : w.grownBy w' r) : a.grownBy w' r :=
  ⟨g.os.trans h.os, g.tape.trans h.tape, g.output.trans h.output, Nat.le_trans h.size g.size, fun k hk hn => (g.block k (Nat.lt_of_lt_of_le hk h.size) hn).trans (h.block k hk hn)⟩
theorem grownBy_below {a w w' : World} {r : Option Nat} (h : a.grownBy w r) (g : Below w.heap.size w w') : a.grownBy w' r :=
  ⟨g.os.trans h.os, g.tape.trans h.tape, g.output.trans h.output, Nat.le_trans h.size g.size, fun k hk hn => (g.block k (Nat.lt_of_lt_of_le hk h.size)).trans (h.block k hk hn)⟩
theorem owns_below {a w' : World} {n : Nat} {v : Value} {xs : List Value} (h : a.ownsRow B e sz v n xs) (g : Below a.heap.size a w') : w'.ownsRow B e sz v n xs :=
  h.kept (row := none) ⟨g.os, g.tape, g.output, g.size, fun k hk _ => g.block k hk⟩ (by cases v.ownBlock <;> simp)
theorem Marking.start {v : Value} {n : Nat} {i : Int} {xs : List Value} (hx : wo.ownsRow B e sz v n xs) : Marking f wo wo B e sz v n i 0 := ⟨grownBy_refl _ _, xs, hx, by simp [marks]⟩
theorem Marking.below {v : Value} {n : Nat} {i : Int} {q : Nat} (h : Marking f wo w B e sz v n i q) (hb : Below w.heap.size w wz) : Marking f wo wz B e sz v n i q := by
  obtain ⟨h1, xs, h2, h3⟩ := h
  exact ⟨grownBy_below h1 hb, xs, owns_below h2 hb, h3⟩
theorem Marking.end_ {v : Value} {n : Nat} {i : Int} (h : Marking f wo w B e sz v n i n) : wo.grownBy w v.ownBlock ∧ w.ownsRow B e sz v n (marks f i n) := by
  obtain ⟨h1, xs, h2, h3⟩ := h
  refine ⟨h1, ?_⟩
  rw [← h3, List.take_of_length_le (by rw [h2.1]; exact Nat.le_refl _)]
  exact h2
/-- One element of one cell. -/
theorem Marking.next1 {g n cap : Nat} {i : Int} {q : Nat} {u : Value} (h : Marking f wo w B e 1 (.slice (some ⟨g, 0, none⟩) n cap) n i q) (hq : q < n) (hu : f i q = [u]) :
    Marking f wo (w.setCell ⟨g, q, none⟩ u) B e 1 (.slice (some ⟨g, 0, none⟩) n cap) n i (q + 1) := by
  obtain ⟨h1, xs, h2, h3⟩ := h
  obtain ⟨h4, h5⟩ := h2.stored q u
  refine ⟨grownBy_trans h1 h5, _, h4, ?_⟩
  rw [Nat.mul_one] at h3 ⊢
  rw [take_set_next _ _ _ (by rw [h2.1]; omega), h3, marks_succ, hu]
/-- One element of two cells. -/
theorem Marking.next2 {g n cap : Nat} {i : Int} {q : Nat} {u v : Value} (h : Marking f wo w B e 2 (.slice (some ⟨g, 0, none⟩) n cap) n i q) (hq : q < n) (hu : f i q = [u, v]) :
    Marking f wo ((w.setCell ⟨g, q * 2, none⟩ u).setCell ⟨g, q * 2 + 1, none⟩ v) B e 2 (.slice (some ⟨g, 0, none⟩) n cap) n i (q + 1) := by
  obtain ⟨h1, xs, h2, h3⟩ := h
  obtain ⟨h4, h5⟩ := h2.stored (q * 2) u
  obtain ⟨h6, h7⟩ := h4.stored (q * 2 + 1) v
  refine ⟨grownBy_trans (grownBy_trans h1 h5) h7, _, h6, ?_⟩
  rw [show (q + 1) * 2 = q * 2 + 1 + 1 by omega, take_set_next _ _ _ (by rw [List.length_set, h2.1]; omega), take_set_next _ _ _ (by rw [h2.1]; omega), h3, marks_succ, hu]
  simp

/-- The second loop's head: the first q lists have grown by p marks each, and lie as the list lv. -/
structure Longer (f : Int → Nat → List Value) (p : Nat) (w0 w2 w : World) (B : Nat) (e : TypeId) (sz BL m : Nat) (V : Nat → Value) (N : Nat → Nat) (eS : TypeId) (q : Nat) (lv : Value) (Ls : List Value) : Prop where
  len : Ls.length = q
  own : w.ownsRow B eS 1 lv q Ls
  each : ∀ (j : Nat) x, Ls[j]? = some x → w.ownsRow B e sz x (N j + p) (marks f j (N j) ++ marks f (-1 - (j : Int)) p) ∧ (x.ownBlock = (V j).ownBlock ∨ ∃ g, x.ownBlock = some g ∧ w2.heap.size ≤ g)
  apart : ∀ (i j : Nat) x y, i ≠ j → Ls[i]? = some x → Ls[j]? = some y → ∀ g, x.ownBlock = some g → y.ownBlock ≠ some g
  alone : ∀ (j : Nat) x, Ls[j]? = some x → ∀ g, lv.ownBlock = some g → x.ownBlock ≠ some g
  new : ∀ g, lv.ownBlock = some g → w2.heap.size ≤ g
  rest : ∀ j : Nat, q ≤ j → j < m → w.ownsRow B e sz (V j) (N j) (marks f j (N j))
  cells : ∀ j : Nat, j < m → ∀ g, (V j).ownBlock = some g → ∀ t u, (marks f j (N j))[t]? = some u → w.cell? ⟨g, t, none⟩ = some u
  row : ∀ j, j < m → w.cell? ⟨BL, j, none⟩ = some (V j)
  kept : GrownIn (Among m V) w0 w
  size : w2.heap.size ≤ w.heap.size
theorem owns_cell {g n : Nat} {v : Value} {xs : List Value} (h : w.ownsRow B e sz v n xs) (hg : v.ownBlock = some g) {t : Nat} {u : Value} (hu : xs[t]? = some u) : w.cell? ⟨g, t, none⟩ = some u := by
  have := h.cells hg t u hu
  rwa [show (⟨g, 0, none⟩ : Addr).add t = ⟨g, t, none⟩ by unfold Addr.add; split <;> simp_all] at this
theorem Longer.start (p : Nat) (eS : TypeId) (h : Marked f w0 w B e sz BL m V N m) : Longer f p w0 w w B e sz BL m V N eS 0 (.slice none 0 0) [] where
  len := rfl
  own := World.ownsRow_nil _ _ _ _
  each _ _ h := by simp at h
  apart _ _ _ _ _ h := by simp at h
  alone _ _ h := by simp at h
  new _ h := by cases h
  rest j _ hj := h.done j hj hj
  cells j hj _ hg _ _ hu := owns_cell (h.done j hj hj) hg hu
  row := h.lists.row
  kept := h.kept
  size := Nat.le_refl _
/-- Within list q: it has grown by p marks so far. -/
structure Growing (f : Int → Nat → List Value) (wo w : World) (B : Nat) (e : TypeId) (sz : Nat) (v : Value) (n : Nat) (i : Int) (p : Nat) (x : Value) : Prop where
  own : w.ownsRow B e sz x (n + p) (marks f i n ++ marks f (-1 - i) p)
  lies : x.ownBlock = v.ownBlock ∨ ∃ g, x.ownBlock = some g ∧ wo.heap.size ≤ g
  kept : wo.grownBy w v.ownBlock
  cells : ∀ g, v.ownBlock = some g → ∀ t u, (marks f i n)[t]? = some u → w.cell? ⟨g, t, none⟩ = some u
theorem Growing.start {v : Value} {n : Nat} {i : Int} (h : w.ownsRow B e sz v n (marks f i n)) : Growing f w w B e sz v n i 0 v :=
  ⟨by simpa [marks] using h, .inl rfl, grownBy_refl _ _, fun _ hg _ _ hu => owns_cell h hg hu⟩
theorem Growing.below {v x : Value} {n p : Nat} {i : Int} (h : Growing f wo w B e sz v n i p x) (hb : Below w.heap.size w wz) : Growing f wo wz B e sz v n i p x :=
  ⟨owns_below h.own hb, h.lies, grownBy_below h.kept hb, fun g hg t u hu => (hb.cell (World.block_lt_of_cell? w _ (h.cells g hg t u hu))).trans (h.cells g hg t u hu)⟩
theorem Growing.next {v x : Value} {n p : Nat} {i : Int} (h : Growing f wo w B e sz v n i p x) {g cap : Nat}
    (hown : wz.ownsRow B e sz (.slice (some ⟨g, 0, none⟩) (n + p + 1) cap) (n + p + 1) ((marks f i n ++ marks f (-1 - i) p) ++ f (-1 - i) p)) (hg : w.grownBy wz x.ownBlock)
    (hlies : x.ownBlock = some g ∨ g = w.heap.size) (hold : ∀ k, x.ownBlock = some k → ∀ j u, (marks f i n ++ marks f (-1 - i) p)[j]? = some u → wz.cell? ⟨k, j, none⟩ = some u) :
    Growing f wo wz B e sz v n i (p + 1) (.slice (some ⟨g, 0, none⟩) (n + (p + 1)) cap) where
  own := by rw [marks_succ, ← List.append_assoc, ← Nat.add_assoc]; exact hown
  lies := by
    rcases hlies with h1 | h1
    · rcases h.lies with h2 | ⟨k, h2, h3⟩
      · left; rw [← h2, h1]; rfl
      · right; exact ⟨g, rfl, by rw [h1] at h2; injection h2 with h2; omega⟩
    · right; exact ⟨g, rfl, by rw [h1]; exact h.kept.size⟩
  kept := by
    refine ⟨hg.os.trans h.kept.os, hg.tape.trans h.kept.tape, hg.output.trans h.kept.output, Nat.le_trans h.kept.size hg.size, fun k hk hn => ?_⟩
    refine (hg.block k (Nat.lt_of_lt_of_le hk h.kept.size) fun e => ?_).trans (h.kept.block k hk hn)
    rcases h.lies with h2 | ⟨b, h2, h3⟩
    · exact hn (e.trans h2)
    · rw [h2] at e; injection e with e; omega
  cells b hb t u hu := by
    by_cases hx : x.ownBlock = some b
    · exact hold b hx t u (by rw [List.getElem?_append_left (List.getElem?_eq_some_iff.1 hu).1]; exact hu)
    · have hc := h.cells b hb t u hu
      exact (World.cell?_of_block (w := w) (hg.block b (World.block_lt_of_cell? w _ hc) (fun e => hx e.symm))).trans hc
/-- List q has grown; the list of the grown ones takes it in. -/
theorem Longer.step {p q : Nat} {w2 : World} {lv x : Value} {Ls : List Value} {eS : TypeId} (h : Longer f p w0 w2 wo B e sz BL m V N eS q lv Ls) (hL : Lists w2 B e sz BL m V N) (hoff : BL < w2.heap.size) (h02 : w0.heap.size ≤ w2.heap.size) (hq : q < m)
    (hG : Growing f wo w B e sz (V q) (N q) q p x) (hp : 0 < p) {g cap : Nat} {wa : World} (hal : Below w.heap.size w wa)
    (hown : wz.ownsRow B eS 1 (.slice (some ⟨g, 0, none⟩) (q + 1) cap) (q + 1) (Ls ++ [x])) (hg : wa.grownBy wz lv.ownBlock) (hlies : lv.ownBlock = some g ∨ g = wa.heap.size) :
    Longer f p w0 w2 wz B e sz BL m V N eS (q + 1) (.slice (some ⟨g, 0, none⟩) (q + 1) cap) (Ls ++ [x]) := by
  have hVlt : ∀ j, j < m → ∀ b, (V j).ownBlock = some b → b < w2.heap.size := fun j hj b hb => (hL.lt hj hb).2
  have hlvlt : ∀ b, lv.ownBlock = some b → b < wo.heap.size := fun b hb => (h.own.lt b hb).2
  have hwo : w2.heap.size ≤ wo.heap.size := h.size
  have hwsz : wo.heap.size ≤ w.heap.size := hG.kept.size
  have hasz : w.heap.size ≤ wa.heap.size := hal.size
  -- blocks of wo, but list q's and lv's, are as they were
  have hblk : ∀ b, b < wo.heap.size → some b ≠ (V q).ownBlock → some b ≠ lv.ownBlock → wz.heap[b]? = wo.heap[b]? := fun b hb h1 h2 =>
    ((hg.block b (by omega) h2).trans (hal.block b (by omega))).trans (hG.kept.block b hb h1)
  -- the grown list's block
  obtain ⟨xb, xc, hx⟩ : ∃ xb xc, x = .slice (some ⟨xb, 0, none⟩) (N q + p) xc := by
    obtain ⟨gb, cc, hv, _, _⟩ := hG.own.form (by omega)
    exact ⟨gb, cc, hv⟩
  have hxown : x.ownBlock = some xb := by rw [hx]; rfl
  have hxlt : xb < w.heap.size := (hG.own.lt xb hxown).2
  have hxlv : ∀ b, lv.ownBlock = some b → xb ≠ b := by
    intro b hb e
    subst e
    have h1 := h.new xb hb
    have h2 := hlvlt xb hb
    rcases hG.lies with h3 | ⟨k, h3, h4⟩
    · have := hVlt q hq xb (by rw [← h3, hxown])
      omega
    · rw [hxown] at h3; injection h3 with h3; omega
  have hxz : wz.ownsRow B e sz x (N q + p) (marks f q (N q) ++ marks f (-1 - (q : Int)) p) := by
    refine (owns_below hG.own hal).kept hg ?_
    right
    rw [hxown]
    intro e
    exact hxlv xb e.symm rfl
  have hgne : xb ≠ g := by
    rcases hlies with h1 | h1
    · exact hxlv g h1
    · omega
  have each' : ∀ (j : Nat) y, Ls[j]? = some y → wz.ownsRow B e sz y (N j + p) (marks f j (N j) ++ marks f (-1 - (j : Int)) p) := by
    intro j y hy
    have hjq : j < q := by have := (List.getElem?_eq_some_iff.1 hy).1; rw [h.len] at this; exact this
    obtain ⟨h1, h2⟩ := h.each j y hy
    have hyq : y.ownBlock ≠ (V q).ownBlock ∨ y.ownBlock = none := by
      cases hv : y.ownBlock with
      | none => exact .inr rfl
      | some b =>
        left
        intro e
        have hbq := hVlt q hq b e.symm
        rcases h2 with h2 | ⟨k, h2, h3⟩
        · exact hL.apart j q (by omega) hq (by omega) b (by rw [← h2, hv]) e.symm
        · rw [hv] at h2; injection h2 with h2; omega
    have e1 : w.ownsRow B e sz y (N j + p) (marks f j (N j) ++ marks f (-1 - (j : Int)) p) := h1.kept hG.kept hyq.symm
    refine (owns_below e1 hal).kept hg ?_
    cases hv : y.ownBlock with
    | none => exact .inl rfl
    | some b => exact .inr fun e => h.alone j y hy b e.symm hv
  have at_ : ∀ (j : Nat) y, (Ls ++ [x])[j]? = some y → Ls[j]? = some y ∨ (j = q ∧ y = x) := by
    intro j y hy
    by_cases hj : j < Ls.length
    · left; rwa [List.getElem?_append_left hj] at hy
    · right
      have hj2 := (List.getElem?_eq_some_iff.1 hy).1
      rw [List.length_append, List.length_singleton] at hj2
      have hj3 : j = Ls.length := by omega
      rw [hj3, List.getElem?_append_right (Nat.le_refl _), Nat.sub_self] at hy
      exact ⟨by rw [hj3, h.len], by simpa using hy.symm⟩
  -- an old grown list and the new one
  have new_old : ∀ (j : Nat) y, Ls[j]? = some y → ∀ b, y.ownBlock = some b → b ≠ xb := by
    intro j y hy b hb e
    subst e
    have hjq : j < q := by have := (List.getElem?_eq_some_iff.1 hy).1; rw [h.len] at this; exact this
    obtain ⟨h1, h2⟩ := h.each j y hy
    have hblt : b < wo.heap.size := (h1.lt b hb).2
    rcases hG.lies with h3 | ⟨k, h3, h4⟩
    · rw [hxown] at h3
      rcases h2 with h2 | ⟨k, h2, h4⟩
      · exact hL.apart j q (by omega) hq (by omega) b (by rw [← h2, hb]) h3.symm
      · rw [hb] at h2; injection h2 with h2
        have := hVlt q hq b h3.symm
        omega
    · rw [hxown] at h3; injection h3 with h3; omega
  refine ⟨by rw [List.length_append, h.len]; rfl, hown, ?_, ?_, ?_, ?_, ?_, ?_, ?_, ?_, ?_⟩
  · intro j y hy
    rcases at_ j y hy with h1 | ⟨rfl, rfl⟩
    · exact ⟨each' j y h1, (h.each j y h1).2⟩
    · refine ⟨hxz, ?_⟩
      rcases hG.lies with h3 | ⟨k, h3, h4⟩
      · exact .inl h3
      · exact .inr ⟨k, h3, by omega⟩
  · intro i j y z hij hy hz b hb hb'
    rcases at_ i y hy with h1 | ⟨rfl, rfl⟩ <;> rcases at_ j z hz with h2 | ⟨rfl, rfl⟩
    · exact h.apart i j y z hij h1 h2 b hb hb'
    · rw [hxown] at hb'; injection hb' with hb'; exact new_old i y h1 b hb hb'.symm
    · rw [hxown] at hb; injection hb with hb; exact new_old j z h2 b hb' hb.symm
    · exact hij rfl
  · intro j y hy b hb hb'
    obtain rfl : g = b := by simpa [Value.ownBlock] using hb
    rcases at_ j y hy with h1 | ⟨rfl, rfl⟩
    · rcases hlies with h2 | h2
      · exact h.alone j y h1 g h2 hb'
      · have := ((h.each j y h1).1.lt g hb').2; omega
    · rw [hxown] at hb'; injection hb' with hb'; exact hgne hb'
  · intro b hb
    obtain rfl : g = b := by simpa [Value.ownBlock] using hb
    rcases hlies with h2 | h2
    · exact h.new g h2
    · omega
  · intro j hj hjm
    have h1 := h.rest j (by omega) hjm
    have hjq : j ≠ q := by omega
    have h2 : w.ownsRow B e sz (V j) (N j) (marks f j (N j)) := h1.kept hG.kept (by
      cases hv : (V j).ownBlock with
      | none => exact .inl rfl
      | some b => exact .inr fun e => hL.apart j q hjm hq hjq b hv e.symm)
    refine (owns_below h2 hal).kept hg ?_
    cases hv : (V j).ownBlock with
    | none => exact .inl rfl
    | some b => exact .inr fun e => by have := h.new b e.symm; have := hVlt j hjm b hv; omega
  · intro j hj b hb t u hu
    have hbV := hVlt j hj b hb
    have hblv : some b ≠ lv.ownBlock := fun e => by have := h.new b e.symm; omega
    by_cases hjq : j = q
    · subst hjq
      have hc := hG.cells b hb t u hu
      have hc2 := (hal.cell (p := ⟨b, t, none⟩) (World.block_lt_of_cell? w _ hc)).trans hc
      exact (World.cell?_of_block (w := wa) (hg.block b (World.block_lt_of_cell? wa _ hc2) hblv)).trans hc2
    · have hc := h.cells j hj b hb t u hu
      exact (World.cell?_of_block (w := wo) (hblk b (by omega) (fun e => hL.apart j q hj hq hjq b hb e.symm) hblv)).trans hc
  · intro j hj
    have hc := h.row j hj
    exact (World.cell?_of_block (w := wo) (hblk BL (by omega) (fun e => hL.off q hq e.symm) (fun e => by have := h.new BL e.symm; omega))).trans hc
  · refine ⟨?_, ?_, ?_, by have := h.kept.size; have := hg.size; omega, fun k hk hn => ?_⟩
    · exact ((hg.os.trans hal.os).trans hG.kept.os).trans h.kept.os
    · exact ((hg.tape.trans hal.tape).trans hG.kept.tape).trans h.kept.tape
    · exact ((hg.output.trans hal.output).trans hG.kept.output).trans h.kept.output
    · have hk0 := h.kept.size
      by_cases hlk : some k = lv.ownBlock
      · have := h.new k hlk.symm
        omega
      · exact (hblk k (by omega) (fun e => hn ⟨q, hq, e.symm⟩) hlk).trans (h.kept.block k hk hn)
  · have := hg.size; omega
end
end Go.Proofs.YtchggapclmdpaaaGreatDoor
namespace Go.Proofs.YtchggapclmdpaaaGreatDoor
open Go.RowKit Go.Lib

theorem cells_at (W : World) {b : Nat} (hb : W.heap.size = b) (cs : List Value) (t : TypeId) : ∀ j u, cs[j]? = some u → (W.alloc (.cells cs.toArray t)).cell? ((⟨b, 0, none⟩ : Addr).add j) = some u := by
  subst hb
  exact cells_newL W cs t
section
variable {α : Type} {enc : α → List Value}
theorem flatMap_set2 (hsz : ∀ x, (enc x).length = 2) (x : α) (a b : Value) (hx : enc x = [a, b]) : ∀ (l : List α) (i : Nat), i < l.length → ((l.flatMap enc).set (i * 2) a).set (i * 2 + 1) b = (l.set i x).flatMap enc
  | [], i, h => by simp at h
  | y :: l, 0, _ => by
    have hy := hsz y
    match hq : enc y, hy with
    | [c, d], _ => simp [hq, hx]
  | y :: l, i + 1, h => by
    have ih := flatMap_set2 hsz x a b hx l i (by simpa using h)
    have hy := hsz y
    match hq : enc y, hy with
    | [c, d], _ =>
      simp only [List.flatMap_cons, hq, List.set_cons_succ, List.cons_append, List.nil_append]
      rw [show (i + 1) * 2 = i * 2 + 1 + 1 by omega]
      simp only [List.set_cons_succ]
      rw [ih]
theorem flatMap_take {n : Nat} (hsz : ∀ x, (enc x).length = n) : ∀ (l : List α) (k : Nat), (l.flatMap enc).take (k * n) = (l.take k).flatMap enc
  | [], k => by simp
  | y :: l, 0 => by simp
  | y :: l, k + 1 => by
    rw [List.flatMap_cons, List.take_succ_cons, List.flatMap_cons, ← flatMap_take hsz l k, Nat.succ_mul, Nat.add_comm, List.take_append, hsz, List.take_of_length_le (by rw [hsz]; omega), Nat.add_sub_cancel_left]
variable {w w' : World} {B n cap g : Nat} {e : TypeId} {l : List α}
/-- One element is stored. -/
theorem owns_set2 (h : w.ownsRow B e 2 (.slice (some ⟨g, 0, none⟩) n cap) n (l.flatMap enc)) (hsz : ∀ x, (enc x).length = 2) {i : Nat} (hi : i < l.length) {x : α} {a b : Value} (hx : enc x = [a, b]) :
    ((w.setCell ⟨g, i * 2, none⟩ a).setCell ⟨g, i * 2 + 1, none⟩ b).ownsRow B e 2 (.slice (some ⟨g, 0, none⟩) n cap) n ((l.set i x).flatMap enc) ∧ w.grownBy ((w.setCell ⟨g, i * 2, none⟩ a).setCell ⟨g, i * 2 + 1, none⟩ b) (some g) := by
  obtain ⟨h1, h2⟩ := h.stored (i * 2) a
  obtain ⟨h3, h4⟩ := h1.stored (i * 2 + 1) b
  rw [flatMap_set2 hsz x a b hx l i hi] at h3
  exact ⟨h3, grownBy_trans h2 h4⟩
/-- An owned row's element. -/
theorem owns_at {size : Nat} (h : w.ownsRow B e size (.slice (some ⟨g, 0, none⟩) n cap) n (l.flatMap enc)) (hsz : ∀ x, (enc x).length = size) {i : Nat} {x : α} (hx : l[i]? = some x) {j : Nat} {u : Value} (hu : (enc x)[j]? = some u) : w.cell? ⟨g, i * size + j, none⟩ = some u :=
  owns_cell h rfl (flatMap_at hsz l i x hx j u hu)
theorem owns_len {size : Nat} {v : Value} (h : w.ownsRow B e size v n (l.flatMap enc)) (hsz : ∀ x, (enc x).length = size) (h0 : 0 < size) : l.length = n := by
  have := h.1
  rw [flatMap_length hsz] at this
  exact Nat.eq_of_mul_eq_mul_right h0 this
/-- The row's beginning, by itself. -/
theorem owns_take {size : Nat} {xs : List Value} (h : w.ownsRow B e size (.slice (some ⟨g, 0, none⟩) n cap) n xs) {i : Nat} (hi : i ≤ n) : w.ownsRow B e size (.slice (some ⟨g, 0, none⟩) i cap) i (xs.take (i * size)) := by
  refine ⟨by rw [List.length_take, h.1]; exact Nat.min_eq_left (Nat.mul_le_mul_right _ hi), ?_⟩
  rcases h.2 with ⟨h', _⟩ | ⟨g', cap', cur, h', hb, hg, hnc, hcm, hcs, htake⟩
  · cases h'
  · cases h'
    refine .inr ⟨g, cap, cur, rfl, hb, hg, by omega, hcm, hcs, ?_⟩
    rw [← htake, List.take_take, Nat.min_eq_left (Nat.mul_le_mul_right _ hi)]
theorem owns_some' {size : Nat} {A : Option Addr} {c : Nat} {xs : List Value} (h : w.ownsRow B e size (.slice A n c) n xs) (hn : 0 < n) : ∃ g, A = some ⟨g, 0, none⟩ ∧ g < w.heap.size := by
  obtain ⟨g, cap, hv, _, hlt⟩ := h.form hn
  injection hv with hA _ _
  exact ⟨g, hA, hlt⟩
theorem owns_cap {size : Nat} {A : Option Addr} {c : Nat} {xs : List Value} (h : w.ownsRow B e size (.slice A n c) n xs) : c ≤ maxLen ∧ n ≤ c := by
  obtain ⟨A', c', e, h1, h2⟩ := owns_slice h
  injection e with _ _ e3
  omega
theorem owns_base {B' size : Nat} {v : Value} {xs : List Value} (h : w.ownsRow B e size v n xs) (hB : B' ≤ B) : w.ownsRow B' e size v n xs := by
  refine ⟨h.1, ?_⟩
  rcases h.2 with h2 | ⟨g, cap, cur, hv, hb, r⟩
  · exact .inl h2
  · exact .inr ⟨g, cap, cur, hv, by omega, r⟩
/-- clear of the row's end. -/
theorem run_clear_own {P : Program} {size : Nat} {xs : List Value} (h : w.ownsRow B e size (.slice (some ⟨g, 0, none⟩) n cap) n xs) {i c : Nat} (hi : i ≤ n) (t ty : TypeId) (ht : P.underlying t = some (.slice e)) (z : Value) (hz : ∀ W, (zeroValue e).run P W = .ok z W) (hzs : z.cells.size = size) (hz1 : ∀ u ∈ z.cells.toList, u.oneCell' = true) (h0 : 0 < size) :
    ∃ w', (Builtin.clear_ #[t] ty #[.slice (some ⟨g, i * size, none⟩) (n - i) c]).run P w = .ok (.tuple #[]) w' ∧ w'.ownsRow B e size (.slice (some ⟨g, 0, none⟩) i cap) i (xs.take (i * size)) ∧ w.grownBy w' (some g) := by
  by_cases hni : n - i = 0
  · rw [hni]
    exact ⟨w, by simp [Builtin.clear_, run_underlying ht], owns_take h hi, grownBy_refl _ _⟩
  · rcases h.2 with ⟨h', _⟩ | ⟨g', cap', cur, h', hb, hg, hnc, hcm, hcs, htake⟩
    · cases h'
    · cases h'
      have hlen : (Builtin.zeroCells z.cells (n - i)).toList.length = (n - i) * size := by rw [Array.length_toList, size_zeroCells, hzs]
      have hfit : i * size + (n - i) * size ≤ cur.size := by rw [← Nat.add_mul, hcs]; exact Nat.mul_le_mul_right _ (by omega)
      have h1 : ∀ u ∈ (Builtin.zeroCells z.cells (n - i)).toList, u.oneCell' = true := by
        intro u hu
        rw [Array.mem_toList_iff] at hu
        simp only [Builtin.zeroCells, Array.mem_map] at hu
        obtain ⟨k, _, rfl⟩ := hu
        have hk : k % z.cells.size < z.cells.size := Nat.mod_lt _ (by omega)
        rw [getElem!_pos z.cells _ hk]
        exact hz1 _ (by simp)
      have hst := run_storeCells_at P g (i * size) e (Builtin.zeroCells z.cells (n - i)).toList 0 cur w hg (by rw [hlen]; omega) h1
      simp only [Nat.add_zero] at hst
      obtain ⟨m, hm⟩ : ∃ m, n - i = m + 1 := ⟨n - i - 1, by omega⟩
      refine ⟨w.setRow g (cur.toList.take (i * size) ++ (Builtin.zeroCells z.cells (n - i)).toList ++ cur.toList.drop (i * size + (Builtin.zeroCells z.cells (n - i)).toList.length)).toArray, ?_, ?_, ?_⟩
      · rw [hm] at hst ⊢
        simp [Builtin.clear_, run_underlying ht, hz, hst]
      · refine ⟨by rw [List.length_take, h.1]; exact Nat.min_eq_left (Nat.mul_le_mul_right _ hi), .inr ⟨g, cap, _, rfl, hb, setRow_heap w g cur _ e _ hg, by omega, hcm, ?_, ?_⟩⟩
        · simp only [List.size_toArray, List.length_append, List.length_take, List.length_drop, Array.length_toList]
          rw [Array.length_toList] at hlen
          omega
        · have hil : i * size ≤ cur.size := by rw [hcs]; exact Nat.mul_le_mul_right _ (by omega)
          rw [← htake, List.take_take, Nat.min_eq_left (Nat.mul_le_mul_right _ hi), List.append_assoc, List.take_append_of_le_length (by rw [List.length_take, Array.length_toList]; omega), List.take_take, Nat.min_self]
      · exact ⟨rfl, rfl, rfl, by simp, fun k _ hk => setRow_other w g k _ (fun e => hk (by rw [e]))⟩
end
end Go.Proofs.YtchggapclmdpaaaGreatDoor
namespace Go.Proofs.YtchggapclmdpaaaGreatDoor
open Go.RowKit Go.Lib

theorem Tryz.infoLabel : (Tryz.prog.info? 94).map (fun i => (i.zero, i.size, i.bytes)) = some (some (.agg #[.string ByteArray.empty, .string ByteArray.empty]), 2, 32) := by kernel_rfl
theorem oneLabel (l : List Lb) : ∀ u ∈ l.flatMap Lb.cells, u.oneCell' = true := by
  intro u hu
  obtain ⟨m, _, h⟩ := List.mem_flatMap.1 hu
  simp only [Lb.cells, List.mem_cons, List.not_mem_nil, or_false] at h
  rcases h with rfl | rfl <;> rfl
theorem below_drewLabel {w w' : World} (h : ∃ q, w' = w.drewN q) : Below w.heap.size w w' := by
  obtain ⟨q, rfl⟩ := h
  exact below_drewN (Below.refl _ _) q
theorem sameLabel_q (A B : Option Addr) (n ca cb : Nat) (l : List Lb) (w : World) (ha : Lst Lb.cells 2 w w.heap.size A n l) (hb : Lst Lb.cells 2 w w.heap.size B n l) (hbig : n ≤ 1000000000) :
    Calls Tryz.prog 15 #[.slice A n ca, .slice B n cb] w fun e w' => e = .returned (.bool true) ∧ ∃ q, w' = w.drewN q := by
  refine (sameLabels_any A B n ca n cb l l w ha hb (by omega) (by omega)).mono ?_
  rintro e w' ⟨h1, h2⟩
  rw [decide_eq_true (labelsC_cmp3.self l)] at h1
  exact ⟨h1, h2⟩
end Go.Proofs.YtchggapclmdpaaaGreatDoor
