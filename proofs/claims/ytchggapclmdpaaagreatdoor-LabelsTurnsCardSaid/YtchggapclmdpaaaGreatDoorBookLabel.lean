/- Book.Labels: a list is laid behind in the book. Written off a master by mk2.py. -/
import Derived.Test.YtchggapclmdpaaaGreatDoorOwnLabel
namespace Go.Proofs.YtchggapclmdpaaaGreatDoor
open Go.RowKit Go.Lib

set_option maxHeartbeats 4000000 in
set_option maxRecDepth 100000 in
theorem bookLabels (bk B m : Nat) (cs : Array Value) (v : Value) (A : Option Addr) (n c : Nat) (Ls : List Value) (w : World) (hb : Bk w bk cs) (hv : cs[9]? = some v) (ho : w.ownsRow B 22 1 v m Ls) (hne : v.ownBlock ≠ some bk) (hB : B ≤ w.heap.size) (hm : m ≤ 1000000) :
    Calls Tryz.prog 25 #[.pointer (some ⟨bk, 0, none⟩), .slice A n c] w (PutPost w bk B m 9 22 cs v (.slice A n c) Ls) := by
  obtain ⟨i1, hi, hz0, hz1, hz2⟩ := info_parts Tryz.infoLabels
  have HJ := Lib.hid (show _ ∧ _ ∧ _ ∧ _ from ⟨hi, hz0, hz1, hz2⟩)
  have c2 := (hb.cell 9).trans hv
  have f2 := hb.free 9
  have HB := Lib.hid (show _ ∧ _ from ⟨hb, ho⟩)
  have HNE := Lib.hid hne
  clear hi hz0 hz1 hz2 hb hv ho hne
  go_enter Tryz.func25, Tryz.ntmps25
  obtain ⟨hi, hz0, hz1, hz2⟩ := HJ.out
  go_wp2_with (at_builtin; refine wpList_append_full _ rfl _ _ 49 rfl B 22 i1 _ 1 24 Tryz.underlying49 hi hz0 hz1 hz2 rfl (by omega) _ m Ls rfl (HB.out.2.alloc _) ⟨w.heap.size, 0, none⟩ 1 1 [.slice A n c] rfl rfl (cells_one w _ _) (by simp [Value.oneCell']) (by omega) (by unfold maxLen; omega) (by omega) (by simp; omega) ?_)
  intro g cap w5 hown5 hg5 hl5 ho5
  have hb1 : Bk (w.alloc (.cells #[.slice A n c] 22)) bk cs := HB.out.1.kept (GrownIn.alloc (GrownIn.refl (fun _ => False) w) _) (fun h => h)
  have hb5 := hb1.kept (GrownIn.of_grownBy hg5) HNE.out
  have hgr : GrownIn (fun k => k = bk ∨ v.ownBlock = some k) w w5 := ((GrownIn.refl _ w).alloc _).trans (GrownIn.of_grownBy hg5) (fun k _ h => .inr h)
  have hgb : g ≠ bk := by
    rcases hl5 with h | h
    · intro e; exact HNE.out (by rw [h, e])
    · have := HB.out.1.lt; intro e; omega
  have hbs := hb5.set 9 (.slice (some ⟨g, 0, none⟩) (m + 1) cap)
  have hos := owns_set_other hown5 (p := ⟨bk, 9, none⟩) (by simp [Value.ownBlock]; exact hgb) (.slice (some ⟨g, 0, none⟩) (m + 1) cap)
  have hgs := grownIn_set hgr (p := ⟨bk, 9, none⟩) (.inl rfl) (.slice (some ⟨g, 0, none⟩) (m + 1) cap)
  have hlies : v.ownBlock = some g ∨ w.heap.size ≤ g := hl5.imp_right fun h => by omega
  have HF := Lib.hid (show _ ∧ _ ∧ _ ∧ _ from ⟨hos, hbs, hgs, hlies⟩)
  have c5 : w5.cell? ⟨bk, 9, none⟩ = some v := (hb5.cell 9).trans ((hb1.cell 9).symm.trans (by rw [World.cell?_alloc_lt _ _ _ HB.out.1.lt]; exact c2))
  have f5 := hb5.free 9
  clear c2 f2 hi hz0 hz1 hz2 hown5 hg5 hl5 ho5 hb1 hb5 hgr hgb hbs hos hgs hlies
  go_wp2
  go_end0
  exact ⟨rfl, g, cap, HF.out.1, HF.out.2.1, HF.out.2.2.1, HF.out.2.2.2⟩
end Go.Proofs.YtchggapclmdpaaaGreatDoor
