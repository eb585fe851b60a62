/- LentLabels. Written off a master by mk2.py. -/
import Derived.Test.YtchggapclmdpaaaGreatDoorGa
import Derived.OwnWalk
import Derived.Laws.AppendOwnNone
import Derived.RangeFuncBox
namespace Go.Proofs.YtchggapclmdpaaaGreatDoor
open Go.RowKit Go.Lib

def mALabel : Lb := ⟨⟨#[111]⟩, ByteArray.empty⟩
def mBLabel : Lb := ⟨⟨#[112]⟩, ByteArray.empty⟩
/-- What LentLabels leaves. -/
def LentLabelPost (w : World) (l : List (Lb)) (n : Nat) (e : Ending) (w' : World) : Prop :=
  ∃ g c, e = .returned (.slice (some ⟨g, 0, none⟩) n c) ∧ w'.ownsRow w.heap.size 94 2 (.slice (some ⟨g, 0, none⟩) (n + 2) c) (n + 2) ((l ++ [mALabel, mBLabel]).flatMap Lb.cells) ∧ Below w.heap.size w w'
set_option maxHeartbeats 2000000 in
set_option maxRecDepth 100000 in
theorem lentLabel_any (A : Option Addr) (n c : Nat) (l : List (Lb)) (w : World) (hr : Lst Lb.cells 2 w w.heap.size A n l) (hnil : A = none → n = 0 ∧ c = 0) (hbig : n ≤ 1000000000) :
    Calls Tryz.prog 18 #[.slice A n c] w (LentLabelPost w l n) := by
  obtain ⟨i0, hi, hz0, hz1, hz2⟩ := info_parts Tryz.infoLabel
  have hbts : i0.bytes * (n + 2) ≤ 281474976710656 := by rw [hz2]; omega
  have HB := Lib.hid hbts
  clear hbts
  go_enter Tryz.func18, Tryz.ntmps18
  go_wp2_with (refine wpList_make_own _ rfl _ _ 22 rfl w.heap.size 94 i0 _ 2 Tryz.underlying22 hi hz0 hz1 .i64 .i64 _ (n + 2) rfl rfl (by simp) HB.out (by unfold maxLen; omega) (Nat.le_refl _) ?_)
  intro w1 hown hg
  have hb1 : Below w.heap.size w w1 := (Below.refl _ _).grown hg (Nat.le_refl _) (fun _ h => by cases h)
  have H1 := Lib.hid (show _ ∧ _ from ⟨hown, hb1⟩)
  have HLEN := Lib.hid hr.1
  have hsrc : ∀ ad, A = some ad → ∀ j u, (l.flatMap Lb.cells)[j]? = some u → w1.cell? (ad.add j) = some u := by
    rintro ad rfl
    have := (hr.below hb1).flat Lb.len
    exact this
  have HS := Lib.hid hsrc
  clear hown hg hb1 hr hsrc
  cases A with
  | none =>
    obtain ⟨rfl, rfl⟩ := hnil rfl
    have hl0 : l = [] := List.length_eq_zero_iff.1 HLEN.out
    have hown2 : w1.ownsRow w.heap.size 94 2 (.slice (some ⟨w.heap.size, 0, none⟩) 0 (0 + 2)) 0 (l.flatMap Lb.cells) := by rw [hl0]; exact H1.out.1
    have HO2 := Lib.hid (show _ ∧ _ from ⟨hown2, H1.out.2⟩)
    clear hown2 HS
    go_wp2_with (at_builtin; first | refine wpList_append_own_none rfl _ _ 22 rfl w.heap.size 94 i0 2 Tryz.underlying22 hi _ 0 [] rfl H1.out.1 rfl ?_ | refine wpList_append_own _ rfl _ _ 22 rfl w.heap.size 94 i0 _ 2 32 Tryz.underlying22 hi hz0 hz1 hz2 rfl (by omega) _ 0 (l.flatMap Lb.cells) rfl (HO2.out.1.alloc _) ⟨w1.heap.size, 0, none⟩ 2 2 ([mALabel, mBLabel].flatMap Lb.cells) rfl rfl (cells_newL w1 ([mALabel, mBLabel].flatMap Lb.cells) _) (oneLabel _) (by unfold maxLen; omega) (by omega) (by have := HO2.out.2.size; simp; omega) ?_)
    intro v3 w3 hown3 hg3 _
    have hown3' : w3.ownsRow w.heap.size 94 2 v3 (0 + 2) ((l ++ [mALabel, mBLabel]).flatMap Lb.cells) := by rw [hl0]; simpa using hown3
    clear hown3
    obtain ⟨g, cap, rfl⟩ := ownsRow_succ hown3'
    have hown3 := hown3'
    clear hown3'
    have hb3 := (HO2.out.2.alloc HO2.out.2.size _).grown hg3 (by have := HO2.out.2.size; simp; omega) (fun x hx => (HO2.out.1.lt x hx).1)
    have hcap : 2 ≤ cap := by
      rcases hown3.2 with ⟨h, _⟩ | ⟨_, _, _, h, _, _, h1, _⟩
      · cases h
      · cases h; exact h1
    have HF := Lib.hid (show _ ∧ _ from ⟨hown3, hb3⟩)
    clear hown3 hg3 hb3 hi hz0 hz1 hz2
    go_wp2
    go_ret
    exact ⟨g, cap, rfl, HF.out.1, HF.out.2⟩
  | some ad =>
    go_wp2_with (at_builtin; go_loud (refine wpList_append_own _ rfl _ _ 22 rfl w.heap.size 94 i0 _ 2 32 Tryz.underlying22 hi hz0 hz1 hz2 rfl (by omega) _ 0 [] rfl H1.out.1 ad n c (l.flatMap Lb.cells) rfl (by rw [flatMap_length (enc := Lb.cells) (size := 2) Lb.len, HLEN.out]) (HS.out ad rfl) (oneLabel _) (by unfold maxLen; omega) (by omega) H1.out.2.size ?_))
    intro v2 w2 hown2 hg2 _
    have hb2 := H1.out.2.grown hg2 H1.out.2.size (fun x hx => (H1.out.1.lt x hx).1)
    clear hg2 H1 HS
    have HO2 := Lib.hid (show _ ∧ _ from ⟨hown2, hb2⟩)
    clear hown2 hb2
    go_wp2_with (at_builtin; go_loud (refine wpList_append_own _ rfl _ _ 22 rfl w.heap.size 94 i0 _ 2 32 Tryz.underlying22 hi hz0 hz1 hz2 rfl (by omega) _ n (l.flatMap Lb.cells) rfl (HO2.out.1.alloc _) ⟨w2.heap.size, 0, none⟩ 2 2 ([mALabel, mBLabel].flatMap Lb.cells) rfl rfl (cells_newL w2 ([mALabel, mBLabel].flatMap Lb.cells) _) (oneLabel _) (by unfold maxLen; omega) (by omega) (by have := HO2.out.2.size; simp; omega) ?_))
    intro v3 w3 hown3 hg3 _
    have hown3' : w3.ownsRow w.heap.size 94 2 v3 (n + 2) ((l ++ [mALabel, mBLabel]).flatMap Lb.cells) := by simpa [List.flatMap_append] using hown3
    clear hown3
    obtain ⟨g, cap, rfl⟩ := ownsRow_succ hown3'
    have hown3 := hown3'
    clear hown3'
    have hb3 := (HO2.out.2.alloc HO2.out.2.size _).grown hg3 (by have := HO2.out.2.size; simp; omega) (fun x hx => (HO2.out.1.lt x hx).1)
    have hcap : n + 2 ≤ cap := by
      rcases hown3.2 with ⟨h, _⟩ | ⟨_, _, _, h, _, _, h1, _⟩
      · cases h
      · cases h; exact h1
    have HF := Lib.hid (show _ ∧ _ from ⟨hown3, hb3⟩)
    clear hown3 hg3 hb3 hi hz0 hz1 hz2
    go_wp2
    go_ret
    exact ⟨g, cap, rfl, HF.out.1, HF.out.2⟩
end Go.Proofs.YtchggapclmdpaaaGreatDoor
