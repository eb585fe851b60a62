/- Plain laws of three-way comparisons: bytes, texts, labels, lists of labels. No program. -/
import Derived.Lib.Bytealg
namespace Go.Proofs.YtajaijidecomdaaGreatDoor
open Go

/-- A three-way comparison that puts all into one order. -/
structure Cmp3 {α : Type} (c : α → α → Int) : Prop where
  swap : ∀ x y, c y x = - c x y
  zero : ∀ x y, c x y = 0 ↔ x = y
  trans : ∀ x y z, c x y < 0 → c y z < 0 → c x z < 0
section
variable {α : Type} {c : α → α → Int}
theorem Cmp3.self (h : Cmp3 c) (x : α) : c x x = 0 := (h.zero x x).2 rfl
theorem Cmp3.le_trans (h : Cmp3 c) {x y z : α} (h1 : c x y ≤ 0) (h2 : c y z ≤ 0) : c x z ≤ 0 := by
  by_cases e1 : c x y = 0
  · rw [(h.zero x y).1 e1]; exact h2
  · by_cases e2 : c y z = 0
    · rw [← (h.zero y z).1 e2]; exact h1
    · have := h.trans x y z (by omega) (by omega); omega
/-- Two lists, element by element; a list comes behind its beginnings. -/
def lexC (c : α → α → Int) : List α → List α → Int
  | [], [] => 0
  | [], _ :: _ => -1
  | _ :: _, [] => 1
  | a :: x, b :: y => if c a b = 0 then lexC c x y else c a b
theorem lexC_swap (h : Cmp3 c) : ∀ x y, lexC c y x = - lexC c x y
  | [], [] => rfl
  | [], _ :: _ => rfl
  | _ :: _, [] => rfl
  | a :: x, b :: y => by
    have hs := h.swap a b
    unfold lexC
    by_cases e : c a b = 0
    · rw [if_pos e, if_pos (by omega)]; exact lexC_swap h x y
    · rw [if_neg e, if_neg (by omega)]; exact hs
theorem lexC_zero (h : Cmp3 c) : ∀ x y, lexC c x y = 0 ↔ x = y
  | [], [] => by simp [lexC]
  | [], _ :: _ => by simp [lexC]
  | _ :: _, [] => by simp [lexC]
  | a :: x, b :: y => by
    unfold lexC
    by_cases e : c a b = 0
    · rw [if_pos e, lexC_zero h x y, List.cons.injEq, (h.zero a b).1 e]; simp
    · rw [if_neg e, List.cons.injEq]
      constructor
      · intro h'; exact absurd h' e
      · intro h'; exact absurd ((h.zero a b).2 h'.1) e
theorem lexC_trans (h : Cmp3 c) : ∀ x y z, lexC c x y < 0 → lexC c y z < 0 → lexC c x z < 0
  | [], [], _ => by simp [lexC]
  | [], _ :: _, [] => by simp [lexC]
  | [], _ :: _, _ :: _ => by simp [lexC]
  | _ :: _, [], _ => by simp [lexC]
  | _ :: _, _ :: _, [] => by simp [lexC]
  | a :: x, b :: y, d :: z => by
    have ih := lexC_trans h x y z
    unfold lexC
    intro h1 h2
    by_cases e1 : c a b = 0
    · rw [if_pos e1] at h1
      have hab := (h.zero a b).1 e1
      subst hab
      by_cases e2 : c a d = 0
      · rw [if_pos e2] at h2 ⊢
        exact ih h1 h2
      · rw [if_neg e2] at h2 ⊢
        exact h2
    · rw [if_neg e1] at h1
      by_cases e2 : c b d = 0
      · have hbd := (h.zero b d).1 e2
        subst hbd
        rw [if_neg e1]; exact h1
      · rw [if_neg e2] at h2
        have := h.trans a b d h1 h2
        rw [if_neg (by omega)]; exact this
theorem lexC_cmp3 (h : Cmp3 c) : Cmp3 (lexC c) := ⟨lexC_swap h, lexC_zero h, lexC_trans h⟩
/-- First by one thing, then by another. -/
theorem pair_cmp3 {β γ : Type} {f : α → β} {g : α → γ} {cb : β → β → Int} {cg : γ → γ → Int} (hb : Cmp3 cb) (hg : Cmp3 cg) (inj : ∀ x y, f x = f y → g x = g y → x = y) :
    Cmp3 fun x y : α => if cb (f x) (f y) = 0 then cg (g x) (g y) else cb (f x) (f y) where
  swap x y := by
    have h1 := hb.swap (f x) (f y)
    have h2 := hg.swap (g x) (g y)
    by_cases e : cb (f x) (f y) = 0
    · rw [if_pos e, if_pos (by omega)]; exact h2
    · rw [if_neg e, if_neg (by omega)]; exact h1
  zero x y := by
    by_cases e : cb (f x) (f y) = 0
    · rw [if_pos e, hg.zero]
      exact ⟨fun h => inj x y ((hb.zero _ _).1 e) h, fun h => by rw [h]⟩
    · rw [if_neg e]
      exact ⟨fun h => absurd h e, fun h => absurd ((hb.zero _ _).2 (by rw [h])) e⟩
  trans x y z := by
    intro h1 h2
    by_cases e1 : cb (f x) (f y) = 0
    · rw [if_pos e1] at h1
      rw [(hb.zero _ _).1 e1]
      by_cases e2 : cb (f y) (f z) = 0
      · rw [if_pos e2] at h2 ⊢
        exact hg.trans _ _ _ h1 h2
      · rw [if_neg e2] at h2 ⊢
        exact h2
    · rw [if_neg e1] at h1
      by_cases e2 : cb (f y) (f z) = 0
      · rw [← (hb.zero _ _).1 e2, if_neg e1]; exact h1
      · rw [if_neg e2] at h2
        have := hb.trans _ _ _ h1 h2
        rw [if_neg (by omega)]; exact this
end
/-- Two bytes. -/
def byteC (a b : UInt8) : Int := if a < b then -1 else if b < a then 1 else 0
theorem byteC_cmp3 : Cmp3 byteC where
  swap x y := by
    unfold byteC
    simp only [UInt8.lt_iff_toNat_lt]
    by_cases h1 : x.toNat < y.toNat
    · rw [if_neg (by omega), if_pos h1, if_pos h1]; rfl
    · by_cases h2 : y.toNat < x.toNat
      · rw [if_pos h2, if_neg h1, if_pos h2]
      · rw [if_neg h2, if_neg h1, if_neg h1, if_neg h2]; rfl
  zero x y := by
    unfold byteC
    simp only [UInt8.lt_iff_toNat_lt]
    constructor
    · intro h
      apply UInt8.toNat_inj.1
      by_cases h1 : x.toNat < y.toNat
      · rw [if_pos h1] at h; omega
      · by_cases h2 : y.toNat < x.toNat
        · rw [if_neg h1, if_pos h2] at h; omega
        · omega
    · rintro rfl
      simp
  trans x y z := by
    unfold byteC
    simp only [UInt8.lt_iff_toNat_lt]
    intro h1 h2
    have a1 : x.toNat < y.toNat := by
      by_cases h : x.toNat < y.toNat
      · exact h
      · rw [if_neg h] at h1; split at h1 <;> omega
    have a2 : y.toNat < z.toNat := by
      by_cases h : y.toNat < z.toNat
      · exact h
      · rw [if_neg h] at h2; split at h2 <;> omega
    rw [if_pos (by omega)]; omega
theorem bytesLess_lex : ∀ x y : List UInt8, Op.bytesLess x y = decide (lexC byteC x y < 0)
  | [], [] => by simp [Op.bytesLess, lexC]
  | [], _ :: _ => by simp [Op.bytesLess, lexC]
  | _ :: _, [] => by simp [Op.bytesLess, lexC]
  | a :: x, b :: y => by
    rw [Op.bytesLess, bytesLess_lex x y, lexC]
    unfold byteC
    by_cases h1 : a < b
    · simp [h1]
    · by_cases h2 : b < a
      · have hne : ¬ a = b := by rintro rfl; exact h1 h2
        simp [h1, h2, hne]
      · have e : a = b := by
          apply UInt8.toNat_inj.1
          rw [UInt8.lt_iff_toNat_lt] at h1 h2
          omega
        subst e
        simp [h1]
/-- Two texts, as cmp.Compare has them. -/
def textC (x y : ByteArray) : Int := if Op.bytesLess x.toList y.toList then -1 else if Op.bytesLess y.toList x.toList then 1 else 0
theorem lexC_sign {x y : List UInt8} : lexC byteC x y = -1 ∨ lexC byteC x y = 0 ∨ lexC byteC x y = 1 := by
  induction x generalizing y with
  | nil => cases y <;> simp [lexC]
  | cons a x ih =>
    cases y with
    | nil => simp [lexC]
    | cons b y =>
      unfold lexC
      by_cases e : byteC a b = 0
      · rw [if_pos e]; exact ih
      · rw [if_neg e]
        unfold byteC at e ⊢
        split
        · exact .inl rfl
        · split
          · exact .inr (.inr rfl)
          · exact .inr (.inl rfl)
theorem textC_lex (x y : ByteArray) : textC x y = lexC byteC x.toList y.toList := by
  unfold textC
  rw [bytesLess_lex, bytesLess_lex, lexC_swap byteC_cmp3 x.toList y.toList]
  rcases lexC_sign (x := x.toList) (y := y.toList) with h | h | h <;> rw [h] <;> decide
theorem toList_inj {x y : ByteArray} (h : x.toList = y.toList) : x = y := by
  rw [Go.Lib.toList_data, Go.Lib.toList_data] at h
  exact ByteArray.ext (Array.toList_inj.1 h)
theorem textC_cmp3 : Cmp3 textC where
  swap x y := by rw [textC_lex, textC_lex]; exact lexC_swap byteC_cmp3 _ _
  zero x y := by
    rw [textC_lex, lexC_zero byteC_cmp3]
    exact ⟨toList_inj, fun h => by rw [h]⟩
  trans x y z := by rw [textC_lex, textC_lex, textC_lex]; exact lexC_trans byteC_cmp3 _ _ _
/-- A label. -/
structure Lb where
  nm : ByteArray
  vl : ByteArray
def labelC (a b : Lb) : Int := if textC a.nm b.nm = 0 then textC a.vl b.vl else textC a.nm b.nm
theorem labelC_cmp3 : Cmp3 labelC := pair_cmp3 (f := Lb.nm) (g := Lb.vl) textC_cmp3 textC_cmp3 fun x y h1 h2 => by cases x; cases y; simp_all
def labelsC : List Lb → List Lb → Int := lexC labelC
theorem labelsC_cmp3 : Cmp3 labelsC := lexC_cmp3 labelC_cmp3
end Go.Proofs.YtajaijidecomdaaGreatDoor
