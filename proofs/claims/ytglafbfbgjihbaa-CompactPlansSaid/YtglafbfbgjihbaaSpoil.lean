/- SpoilMetas: everything in the lent row's memory is spoilt, nothing else. -/
import Derived.Test.YtglafbfbgjihbaaWhole
import Derived.Laws.Rows
namespace Go.Proofs.Ytglafbfbgjihbaa
open Go.RowKit Go.Lib

theorem grownBy_set {w wr : World} {g : Nat} (h : w.grownBy wr (some g)) (i : Nat) (v : Value) : w.grownBy (wr.setCell ⟨g, i, none⟩ v) (some g) :=
  ⟨h.os, h.tape, h.output, by simpa using h.size, fun k hk hne => (heap_setCell_other _ _ _ _ (fun e => hne (by rw [e]))).trans (h.block k hk hne)⟩
theorem grownBy_refl (w : World) (r : Option Nat) : w.grownBy w r := ⟨rfl, rfl, rfl, Nat.le_refl _, fun _ _ _ => rfl⟩
set_option maxHeartbeats 4000000 in
set_option maxRecDepth 100000 in
theorem spoil_any (g n c : Nat) (cur : Array Value) (w : World) (hg : w.heap[g]? = some (.cells cur 71 (0, 0))) (hsz : cur.size = c * 5) (_hn : n ≤ c) (hc : c ≤ maxLen) :
    Calls Try.prog 11 #[.slice (some ⟨g, 0, none⟩) n c] w fun e w' => e = .returned (.tuple #[]) ∧ w.grownBy w' (some g) := by
  have HG := Lib.hid (show _ ∧ _ from ⟨hg, hsz⟩)
  have hc' : c ≤ 9223372036854775807 := hc
  clear hg hsz hc
  go_enter Try.func11, Try.ntmps11
  go_wp2
  go_loopw [3] (fun i wr => ∃ (k : Nat) (cu : Array Value), k ≤ c ∧ i = .int .i64 k ∧ w.grownBy wr (some g) ∧ Hid (wr.heap[g]? = some (.cells cu 71 (0, 0)) ∧ cu.size = c * 5)) (fun i _ => c - (intOf i).toNat)
  case atStart => exact ⟨0, cur, Nat.zero_le _, rfl, grownBy_refl _ _, HG⟩
  case round =>
    obtain ⟨k, cu, hk, rfl, hgr, HB⟩ := hrel
    by_cases hlt : k < c
    · have hcell : ∀ j, j < 5 → ∃ x, wr.cell? ⟨g, k * 5 + j, none⟩ = some x := fun j hj => ⟨_, by
        rw [cell_of_row _ _ _ _ _ _ HB.out.1]
        exact Array.getElem?_eq_getElem (by have := HB.out.2; omega)⟩
      have hfr : ∀ j, wr.frozen? ⟨g, j, none⟩ = false := fun j => by simp [World.frozen?, HB.out.1]
      obtain ⟨x0, c0⟩ := hcell 0 (by omega)
      obtain ⟨x1, c1⟩ := hcell 1 (by omega)
      obtain ⟨x2, c2⟩ := hcell 2 (by omega)
      obtain ⟨x3, c3⟩ := hcell 3 (by omega)
      obtain ⟨x4, c4⟩ := hcell 4 (by omega)
      have f0 := hfr (k * 5)
      have f1 := hfr (k * 5 + 1)
      have f2 := hfr (k * 5 + 2)
      have f3 := hfr (k * 5 + 3)
      have f4 := hfr (k * 5 + 4)
      simp only [Nat.add_zero] at c0
      clear hcell hfr
      go_wp2
      go_roundw
      case measure => simp [intOf]; omega
      case rel =>
        refine ⟨k + 1, _, hlt, by simp, grownBy_set (grownBy_set (grownBy_set (grownBy_set (grownBy_set hgr _ _) _ _) _ _) _ _) _ _, Lib.hid ⟨heap_setCell_same _ _ _ _ _ _ (heap_setCell_same _ _ _ _ _ _ (heap_setCell_same _ _ _ _ _ _ (heap_setCell_same _ _ _ _ _ _ (heap_setCell_same _ _ _ _ _ _ HB.out.1)))), ?_⟩⟩
        simpa using HB.out.2
    · go_wp2
      go_end0
      exact ⟨rfl, hgr⟩
end Go.Proofs.Ytglafbfbgjihbaa
