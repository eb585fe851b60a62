/- slices.Clone at marks. -/
import Derived.Test.YtamlnkmcbbeicaaDoorRgThr
import Derived.Deep.DeepCutAuto
import Derived.OwnWalk
import Derived.WalkLawsBesides
namespace Go.Proofs.YtamlnkmcbbeicaaDoor
open Go.RowKit Go.Lib
open RX (PS Tr Pr Stp Th)

set_option maxHeartbeats 2000000 in
set_option maxRecDepth 100000 in
theorem clone_marks (b n c : Nat) (m : List Int) (w : World) (h : MarkV w (.slice (some ⟨b, 0, none⟩) n c) m) (hn0 : 0 < n) (hn : n ≤ 100000) :
    Calls Tryd.prog 61 #[.slice (some ⟨b, 0, none⟩) n c] w fun e w' => ∃ g c', e = .returned (.slice (some ⟨g, 0, none⟩) n c') ∧ w'.ownsRow w.heap.size 3 1 (.slice (some ⟨g, 0, none⟩) n c') n (m.map (Value.int .i64)) ∧ Below w.heap.size w w' := by
  obtain ⟨i0, hi, hz0, hz1, hz2⟩ := info_parts Tryd.infoIntM
  have hlen : n = m.length := by
    obtain ⟨A, c', e, _⟩ := owns_slice h
    cases e; rfl
  have hcells : ∀ w1, Below w.heap.size w w1 → ∀ j u, (m.map (Value.int .i64))[j]? = some u → w1.cell? ((⟨b, 0, none⟩ : Addr).add j) = some u := fun w1 hb j u hu => by
    have h1 := owns_cell (owns_below h hb) rfl hu
    rw [show (⟨b, 0, none⟩ : Addr).add j = ⟨b, j, none⟩ by unfold Addr.add; split <;> simp_all]
    exact h1
  have HC := Lib.hid hcells
  have HL := Lib.hid hlen
  have hq := fun w : World => Lib.run_eql_slice_nil w 98 3 (some ⟨b, 0, none⟩) n c 0 0 Tryd.underlying98
  clear hcells h hlen
  go_enter Tryd.func61, Tryd.ntmps61
  go_wp2_with (first
    | (at_builtin; refine wpList_append_full _ rfl _ _ 98 rfl w.heap.size 3 i0 _ 1 8 Tryd.underlying98 hi hz0 hz1 hz2 rfl (by omega) (.slice (some ⟨w.heap.size, 0, none⟩) 0 0) 0 [] rfl (World.ownsRow_made w #[] 0 (Nat.le_refl _) (Nat.zero_le _) (by simp)) ⟨b, 0, none⟩ n c (m.map (Value.int .i64)) rfl (by rw [List.length_map, ← HL.out, Nat.mul_one]) (HC.out _ ((Below.refl _ _).alloc (Nat.le_refl _) _)) (by simp [Value.oneCell']) hn0 (by unfold maxLen; omega) (by omega) (by simp) ?_; intro g6 c6 w6 hown6 hg6 hl6 _; have HF := Lib.hid (show _ ∧ _ from ⟨hown6, ((Below.refl w.heap.size w).alloc (Nat.le_refl _) _).grown hg6 (by simp) (by intro k hk; simp [Value.ownBlock] at hk; omega)⟩); clear hown6 hg6 hl6 hi hz0 hz1 hz2)
    | fail)
  refine bodyPost_ret (v := .slice (some ⟨g6, 0, none⟩) n c6) (by simp [results, Tryd.results61, go_sem]) rfl ⟨g6, c6, rfl, ?_, HF.out.2⟩
  simpa using HF.out.1
end Go.Proofs.YtamlnkmcbbeicaaDoor
