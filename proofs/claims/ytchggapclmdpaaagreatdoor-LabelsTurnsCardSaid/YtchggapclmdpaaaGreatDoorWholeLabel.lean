/- WholeLabels, SpoilLabels. Written off a master by mk2.py. -/
import Derived.Test.YtchggapclmdpaaaGreatDoorLentLabel
import Derived.Laws.Rows
import Derived.BigQuiet
namespace Go.Proofs.YtchggapclmdpaaaGreatDoor
open Go.RowKit Go.Lib

set_option maxHeartbeats 2000000 in
theorem wholeLabel_q (g c : Nat) (B : Option Addr) (n cb : Nat) (l : List (Lb)) (w : World) (ha : Lst Lb.cells 2 w w.heap.size (some ⟨g, 0, none⟩) (n + 2) (l ++ [mALabel, mBLabel])) (hc : n + 2 ≤ c) (hb : Lst Lb.cells 2 w w.heap.size B n l) (hbig : n ≤ 1000000000) :
    Calls Tryz.prog 22 #[.slice (some ⟨g, 0, none⟩) n c, .slice B n cb] w fun e w' => e = .returned (.bool true) ∧ ∃ q, w' = w.drewN q := by
  have hl := hb.1
  obtain ⟨b, off, e, hbb, hcc⟩ := ha.2 (by omega)
  cases e
  have hA : (l ++ [mALabel, mBLabel])[n]? = some mALabel := by rw [List.getElem?_append_right (by omega), hl]; simp
  have hB : (l ++ [mALabel, mBLabel])[n + 1]? = some mBLabel := by rw [List.getElem?_append_right (by omega), hl]; simp
  have c0 := hcc n _ hA 0 _ rfl
  have c1 := hcc n _ hA 1 _ rfl
  have d0 := hcc (n + 1) _ hB 0 _ rfl
  have d1 := hcc (n + 1) _ hB 1 _ rfl
  simp only [Nat.zero_add, Nat.add_zero, mALabel, mBLabel] at c0 c1 d0 d1
  have hown : Lst Lb.cells 2 w w.heap.size (some ⟨g, 0, none⟩) n l := by
    have := ha.take (k := n) (by omega)
    rwa [List.take_append_of_le_length (by omega), List.take_of_length_le (by omega)] at this
  have HS := Lib.hid (sameLabel_q (some ⟨g, 0, none⟩) B n c cb l w hown hb hbig)
  clear hown ha hb hcc hA hB hl
  have hci : (n : Int) + 2 ≤ (c : Int) := by omega
  go_enter Tryz.func22, Tryz.ntmps22
  go_wp2_with fail
  refine HS.out.mono ?_
  rintro e w' ⟨rfl, q, rfl⟩
  go_wp2
  go_ret
  exact ⟨rfl, _, by first | rfl | exact World.drewN_drewN _ _ _⟩
theorem wholeLabel_eq (g c : Nat) (B : Option Addr) (n cb : Nat) (l : List (Lb)) (w : World) (ha : Lst Lb.cells 2 w w.heap.size (some ⟨g, 0, none⟩) (n + 2) (l ++ [mALabel, mBLabel])) (hc : n + 2 ≤ c) (hb : Lst Lb.cells 2 w w.heap.size B n l) (hbig : n ≤ 1000000000) :
    Calls Tryz.prog 22 #[.slice (some ⟨g, 0, none⟩) n c, .slice B n cb] w fun e w' => e = .returned (.bool true) ∧ Below w.heap.size w w' :=
  (wholeLabel_q g c B n cb l w ha hc hb hbig).mono fun _ _ ⟨h1, h2⟩ => ⟨h1, below_drewLabel h2⟩
theorem grownBy_setLabel {w wr : World} {g : Nat} (h : w.grownBy wr (some g)) (i : Nat) (v : Value) : w.grownBy (wr.setCell ⟨g, i, none⟩ v) (some g) :=
  ⟨h.os, h.tape, h.output, by simpa using h.size, fun k hk hne => (heap_setCell_other _ _ _ _ (fun e => hne (by rw [e]))).trans (h.block k hk hne)⟩
set_option maxHeartbeats 4000000 in
set_option maxRecDepth 100000 in
theorem spoilLabel_any (g n c : Nat) (cur : Array Value) (w : World) (hg : w.heap[g]? = some (.cells cur 94 (0, 0))) (hsz : cur.size = c * 2) (_hn : n ≤ c) (hc : c ≤ maxLen) :
    Calls Tryz.prog 23 #[.slice (some ⟨g, 0, none⟩) n c] w fun e w' => e = .returned (.tuple #[]) ∧ w.grownBy w' (some g) := by
  have HG := Lib.hid (show _ ∧ _ from ⟨hg, hsz⟩)
  have hc' : c ≤ 9223372036854775807 := hc
  clear hg hsz hc
  go_enter Tryz.func23, Tryz.ntmps23
  go_wp2
  go_loopw [3] (fun i wr => ∃ (k : Nat) (cu : Array Value), k ≤ c ∧ i = .int .i64 k ∧ w.grownBy wr (some g) ∧ Hid (wr.heap[g]? = some (.cells cu 94 (0, 0)) ∧ cu.size = c * 2)) (fun i _ => c - (intOf i).toNat)
  case atStart => exact ⟨0, cur, Nat.zero_le _, rfl, ⟨rfl, rfl, rfl, Nat.le_refl _, fun _ _ _ => rfl⟩, HG⟩
  case round =>
    obtain ⟨k, cu, hk, rfl, hgr, HB⟩ := hrel
    by_cases hlt : k < c
    · have hcell : ∀ j, j < 2 → ∃ x, wr.cell? ⟨g, k * 2 + j, none⟩ = some x := fun j hj => ⟨_, by
        rw [cell_of_row _ _ _ _ _ _ HB.out.1]
        exact Array.getElem?_eq_getElem (by have := HB.out.2; omega)⟩
      have hfr : ∀ j, wr.frozen? ⟨g, j, none⟩ = false := fun j => by simp [World.frozen?, HB.out.1]
      obtain ⟨x0, c0⟩ := hcell 0 (by omega)
      obtain ⟨x1, c1⟩ := hcell 1 (by omega)
      have f0 := hfr (k * 2)
      have f1 := hfr (k * 2 + 1)
      simp only [Nat.add_zero] at c0
      clear hcell hfr
      go_wp2
      go_roundw
      case measure => simp [intOf]; omega
      case rel =>
        refine ⟨k + 1, _, hlt, by simp, grownBy_setLabel (grownBy_setLabel hgr _ _) _ _, Lib.hid ⟨heap_setCell_same _ _ _ _ _ _ (heap_setCell_same _ _ _ _ _ _ HB.out.1), ?_⟩⟩
        simpa using HB.out.2
    · go_wp2
      go_end0
      exact ⟨rfl, hgr⟩
end Go.Proofs.YtchggapclmdpaaaGreatDoor
