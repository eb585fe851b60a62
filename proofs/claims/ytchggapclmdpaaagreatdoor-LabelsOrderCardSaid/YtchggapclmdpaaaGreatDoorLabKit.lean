/- Rows of labels: what the walks over them ask. -/
import Derived.Test.YtchggapclmdpaaaGreatDoorSameLab
import Derived.Test.YtchggapclmdpaaaGreatDoorRow2
namespace Go.Proofs.YtchggapclmdpaaaGreatDoor
open Go.RowKit Go.Lib

theorem Tryz.infoLabel : (Tryz.prog.info? 94).map (fun i => (i.zero, i.size, i.bytes)) = some (some (.agg #[.string ByteArray.empty, .string ByteArray.empty]), 2, 32) := by kernel_rfl
theorem oneLabel (l : List Lb) : ∀ u ∈ l.flatMap Lb.cells, u.oneCell' = true := by
  intro u hu
  obtain ⟨m, _, h⟩ := List.mem_flatMap.1 hu
  simp only [Lb.cells, List.mem_cons, List.not_mem_nil, or_false] at h
  rcases h with rfl | rfl <;> rfl
theorem below_drewLabel {w w' : World} (h : ∃ q, w' = w.drewN q) : Below w.heap.size w w' := by
  obtain ⟨q, rfl⟩ := h
  exact below_drewN (Below.refl _ _) q
theorem sameLabel_q (A B : Option Addr) (n ca cb : Nat) (l : List Lb) (w : World) (ha : Lst Lb.cells 2 w w.heap.size A n l) (hb : Lst Lb.cells 2 w w.heap.size B n l) (hbig : n ≤ 1000000000) :
    Calls Tryz.prog 15 #[.slice A n ca, .slice B n cb] w fun e w' => e = .returned (.bool true) ∧ ∃ q, w' = w.drewN q := by
  refine (sameLabels_any A B n ca n cb l l w ha hb (by omega) (by omega)).mono ?_
  rintro e w' ⟨h1, h2⟩
  rw [decide_eq_true (labelsC_cmp3.self l)] at h1
  exact ⟨h1, h2⟩
end Go.Proofs.YtchggapclmdpaaaGreatDoor
