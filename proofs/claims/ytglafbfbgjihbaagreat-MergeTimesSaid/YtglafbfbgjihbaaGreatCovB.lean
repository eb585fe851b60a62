/- Whether a time lies in one of some intervals, as a function. No program. -/
import Derived.Test.YtglafbfbgjihbaaGreatIvLaw
namespace Go.Proofs.YtglafbfbgjihbaaGreat

def covB (l : List (Int × Int)) (t : Int) : Bool := l.any fun x => decide (x.1 ≤ t ∧ t ≤ x.2)
theorem covB_iff (l : List (Int × Int)) (t : Int) : covB l t = true ↔ Cov l t := by
  unfold covB Cov
  rw [List.any_eq_true]
  exact ⟨fun ⟨x, hx, h⟩ => ⟨x, hx, of_decide_eq_true h⟩, fun ⟨x, hx, h⟩ => ⟨x, hx, decide_eq_true h⟩⟩
theorem covB_congr {l m : List (Int × Int)} (h : ∀ t, Cov l t ↔ Cov m t) (t : Int) : covB l t = covB m t := by
  rw [Bool.eq_iff_iff, covB_iff, covB_iff]; exact h t
theorem covB_succ {l : List (Int × Int)} {k : Nat} {x : Int × Int} {t : Int} (hx : l[k]? = some x) : covB (l.take (k + 1)) t = (covB (l.take k) t || decide (x.1 ≤ t ∧ t ≤ x.2)) := by
  obtain ⟨hk, e⟩ := List.getElem?_eq_some_iff.1 hx
  unfold covB
  rw [List.take_succ_eq_append_getElem hk, e, List.any_append]
  simp
theorem covB_mem {l : List (Int × Int)} {k : Nat} {x : Int × Int} {t : Int} (hx : l[k]? = some x) (h : x.1 ≤ t ∧ t ≤ x.2) : covB l t = true := (covB_iff l t).2 ⟨x, List.mem_of_getElem? hx, h⟩
/-- Those that lie in none; those that lie in one. -/
def withoutS (s : List (Int × Int)) (l : List (Int × Int)) : List (Int × Int) := s.filter fun x => !covB l x.1
def withinS (s : List (Int × Int)) (l : List (Int × Int)) : List (Int × Int) := s.filter fun x => covB l x.1
theorem filter_succ {s : List (Int × Int)} {k : Nat} {x : Int × Int} (p : Int × Int → Bool) (hx : s[k]? = some x) : (s.take (k + 1)).filter p = (s.take k).filter p ++ (if p x then [x] else []) := by
  obtain ⟨hk, e⟩ := List.getElem?_eq_some_iff.1 hx
  rw [List.take_succ_eq_append_getElem hk, e, List.filter_append]
  by_cases h : p x <;> simp [h]
end Go.Proofs.YtglafbfbgjihbaaGreat
