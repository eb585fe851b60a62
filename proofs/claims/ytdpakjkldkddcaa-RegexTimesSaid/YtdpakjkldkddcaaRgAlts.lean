/- Patterns' machine: branches laid one behind the other, their jumps mended later. -/
import Derived.Test.YtdpakjkldkddcaaRgAgain3
namespace Go.Proofs.Ytdpakjkldkddcaa
open Go.RowKit Go.Lib
open RX (PS Tr Pr Stp)

/-- All branches but the last. -/
def preA (fin : Nat) : List Tr → Nat → List Stp
  | [], _ => []
  | t :: l, b => .fork (b + 1) (b + t.size + 2) false :: (t.lay (b + 1) ++ .jump fin :: preA fin l (b + t.size + 2))
/-- Where the branch behind these begins. -/
def offA (l : List Tr) (b : Nat) : Nat := b + RX.sizes l + 2 * l.length
theorem offA_snoc (l : List Tr) (t : Tr) (b : Nat) : offA (l ++ [t]) b = offA l b + t.size + 2 := by
  unfold offA; rw [sizes_snoc, List.length_append, List.length_singleton]; omega
theorem offA_cons (l : List Tr) (t : Tr) (b : Nat) : offA (t :: l) b = offA l (b + t.size + 2) := by
  unfold offA; rw [RX.sizes, List.length_cons]; omega
theorem preA_length (fin : Nat) : ∀ (l : List Tr) (b : Nat), b + (preA fin l b).length = offA l b
  | [], b => by simp [preA, offA, RX.sizes]
  | t :: l, b => by
    rw [offA_cons, ← preA_length fin l (b + t.size + 2), preA, List.length_cons, List.length_append, List.length_cons, t.lay_length]; omega
theorem preA_snoc (fin : Nat) (t : Tr) : ∀ (l : List Tr) (b : Nat), preA fin (l ++ [t]) b = preA fin l b ++ .fork (offA l b + 1) (offA l b + t.size + 2) false :: (t.lay (offA l b + 1) ++ [.jump fin])
  | [], b => by simp [preA, offA, RX.sizes]
  | u :: l, b => by
    rw [List.cons_append, preA, preA_snoc fin t l, preA, offA_cons]
    simp
theorem alts_snoc (fin : Nat) (t : Tr) : ∀ (l : List Tr) (b : Nat), RX.layAlts (l ++ [t]) b fin = preA fin l b ++ t.lay (offA l b)
  | [], b => by simp [preA, offA, RX.sizes, RX.layAlts]
  | [u], b => by
    rw [offA_cons, preA]
    simp [RX.layAlts, preA, offA, RX.sizes]
  | u :: v :: l, b => by
    have h := alts_snoc fin t (v :: l) (b + u.size + 2)
    rw [List.cons_append] at h
    rw [List.cons_append, List.cons_append, RX.layAlts, h]
    conv => rhs; rw [preA, offA_cons]
    simp
/-- Where the jumps stand. -/
def posA (l : List Tr) (b : Nat) : List Value := match l with
  | [] => []
  | t :: r => .int .i64 ((b + 1 + t.size : Nat) : Int) :: posA r (b + t.size + 2)
theorem posA_length : ∀ (l : List Tr) (b : Nat), (posA l b).length = l.length
  | [], _ => rfl
  | t :: l, b => by rw [posA, List.length_cons, List.length_cons, posA_length l]
theorem posA_snoc (t : Tr) : ∀ (l : List Tr) (b : Nat), posA (l ++ [t]) b = posA l b ++ [.int .i64 ((offA l b + 1 + t.size : Nat) : Int)]
  | [], b => by simp [posA, offA, RX.sizes]
  | u :: l, b => by rw [List.cons_append, posA, posA_snoc t l, posA, offA_cons]; rfl
theorem posA_at : ∀ (l r : List Tr) (t : Tr) (b : Nat), (posA (l ++ t :: r) b)[l.length]? = some (.int .i64 ((offA l b + 1 + t.size : Nat) : Int))
  | [], r, t, b => by simp [posA, offA, RX.sizes]
  | u :: l, r, t, b => by
    rw [List.cons_append, posA, List.length_cons, List.getElem?_cons_succ, posA_at l r t, offA_cons]
/-- The machine with its first jumps mended. -/
def mendA (fin : Nat) (L : List Stp) (l r : List Tr) (T : List Stp) : List Stp := L ++ preA fin l L.length ++ preA 0 r (offA l L.length) ++ T
theorem mendA_first {fin : Nat} {L T : List Stp} {l r : List Tr} {t : Tr} : ∃ l1 l2, mendA fin L l (t :: r) T = l1 ++ Stp.jump 0 :: l2 ∧ l1.length = offA l L.length + 1 + t.size ∧ mendA fin L (l ++ [t]) r T = l1 ++ Stp.jump fin :: l2 := by
  refine ⟨L ++ preA fin l L.length ++ .fork (offA l L.length + 1) (offA l L.length + t.size + 2) false :: t.lay (offA l L.length + 1), preA 0 r (offA l L.length + t.size + 2) ++ T, ?_, ?_, ?_⟩
  · simp [mendA, preA]
  · rw [List.length_append, List.length_append, List.length_cons, t.lay_length, preA_length]; omega
  · rw [mendA, preA_snoc, offA_snoc]
    simp
theorem jump_first (fin : Nat) : { Stp.jump 0 with first := fin } = Stp.jump fin := rfl
/-- fork's two places, mended one by one. -/
theorem plain_mend (a b : Nat) : ({ ({ Stp.plain 5 with first := a } : Stp) with other := b } : Stp) = Stp.fork a b false := rfl
theorem plain_mend' (a b : Nat) : ({ ({ Stp.plain 5 with other := b } : Stp) with first := a } : Stp) = Stp.fork a b false := rfl
end Go.Proofs.Ytdpakjkldkddcaa
