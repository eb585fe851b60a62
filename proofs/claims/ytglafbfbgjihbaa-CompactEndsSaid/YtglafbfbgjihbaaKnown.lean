/- Rows of elements of several cells as lists; the known round of chapter 19. -/
import Derived.Test.YtglafbfbgjihbaaPlanLaw
import Derived.Test.YtglafbfbgjihbaaSame
import Derived.Test.YtglafbfbgjihbaaPlan
namespace Go.Proofs.Ytglafbfbgjihbaa
open Go.RowKit Go.Lib

def m4 : List Mt := [⟨1, 0, 0, 0, 1⟩, ⟨2, 0, 0, 0, 1⟩, ⟨3, 0, 0, 0, 2⟩, ⟨4, 0, 0, 0, 1⟩]
theorem plan_m4 {p : List Int} (h : PlanIs m4 p) : p = [0, 1, 3] := by
  rcases h.cases with ⟨_, h⟩ | ⟨lv, h1, h2, rfl⟩
  · exact absurd (h 1) (by decide)
  · have e : lv = 1 := by
      by_cases e1 : lv = 1
      · exact e1
      · have : manyOf m4 lv ≤ 1 := by
          by_cases e2 : lv = 2
          · subst e2; decide
          · have e1' : ¬ (1 : Int) = lv := fun h => e1 h.symm
            have e2' : ¬ (2 : Int) = lv := fun h => e2 h.symm
            simp [manyOf, idxs, m4, List.range, List.range.loop, e1', e2']
        omega
    subst e
    decide
theorem plan_m3 {p : List Int} (h : PlanIs (m4.take 3) p) : p = [] := by
  rcases h.cases with ⟨h, _⟩ | ⟨lv, h1, h2, rfl⟩
  · exact h
  · exfalso
    by_cases e1 : lv = 1
    · subst e1; revert h2; decide
    · by_cases e2 : lv = 2
      · subst e2; revert h2; decide
      · have e1' : ¬ (1 : Int) = lv := fun h => e1 h.symm
        have e2' : ¬ (2 : Int) = lv := fun h => e2 h.symm
        simp [manyOf, idxs, m4, List.range, List.range.loop, e1', e2'] at h2
theorem m4_ok : ∀ m ∈ m4, m.ok := by
  intro m hm
  simp only [m4, List.mem_cons, List.not_mem_nil, or_false] at hm
  rcases hm with rfl | rfl | rfl | rfl <;> exact ⟨by decide, by decide, by decide⟩
set_option maxHeartbeats 1000000 in
theorem known19 (w : World) :
    Calls Try.prog 14 #[] w fun e w' => e = .returned (.bool true) ∧ Below w.heap.size w w' := by
  go_enter Try.func14, Try.ntmps14
  go_wp2_with fail
  have hg := heap_alloc_new w (.cells (m4.flatMap Mt.cells).toArray 71)
  have hL := lst_block (enc := Mt.cells) (size := 5) hg (by simp) (show m4.length = 4 from rfl) (fun _ => rfl)
  have hb : Below w.heap.size w (w.alloc (.cells (m4.flatMap Mt.cells).toArray 71)) := (Below.refl _ _).alloc (Nat.le_refl _) _
  change Calls _ _ _ (w.alloc (.cells (m4.flatMap Mt.cells).toArray 71)) _
  generalize w.alloc (.cells (m4.flatMap Mt.cells).toArray 71) = w1 at hL hb ⊢
  have H := Lib.hid (show _ ∧ _ from ⟨hL, hb⟩)
  clear hg hL hb
  refine (plan_any _ _ _ _ w1 H.out.1 m4_ok (by omega)).mono ?_
  rintro e w2 ⟨v, p, rfl, hp, hrow, hb2⟩
  rw [plan_m4 hp] at hrow
  obtain ⟨A2, c2, rfl, _, hI⟩ := ownsRow_ints hrow rfl
  have H2 := Lib.hid (show _ ∧ _ from ⟨hI, hb2⟩)
  clear hI hb2 hrow hp p
  go_wp2_with fail
  have hg := heap_alloc_new w2 (.cells ([0, 1, 3].flatMap fun x => [Value.int .i64 x]).toArray 3)
  have hL := lst_block (enc := fun x => [Value.int .i64 x]) (size := 1) hg (by simp) (show [0, 1, 3].length = 3 from rfl) (fun _ => rfl)
  have hb : Below w2.heap.size w2 (w2.alloc (.cells ([0, 1, 3].flatMap fun x => [Value.int .i64 x]).toArray 3)) := (Below.refl _ _).alloc (Nat.le_refl _) _
  change Calls _ _ _ (w2.alloc (.cells ([0, 1, 3].flatMap fun x => [Value.int .i64 x]).toArray 3)) _
  generalize w2.alloc (.cells ([0, 1, 3].flatMap fun x => [Value.int .i64 x]).toArray 3) = w3 at hL hb ⊢
  have H3 := Lib.hid (show _ ∧ _ from ⟨hL, hb⟩)
  clear hg hL hb
  refine (same_any _ _ _ _ _ _ _ _ w3 ((H2.out.1.below H3.out.2).more H3.out.2.size) H3.out.1 (by decide) (by decide)).mono ?_
  rintro e w4 ⟨rfl, hb4⟩
  have hb4' : Below w1.heap.size w1 w4 := H2.out.2.trans ((H3.out.2.trans (hb4.mono H3.out.2.size)).mono H2.out.2.size)
  have hL4 := (H.out.1.below hb4').more hb4'.size
  have hbl := H.out.2.trans (hb4'.mono H.out.2.size)
  have H4 := Lib.hid (show _ ∧ _ from ⟨hL4, hbl⟩)
  clear hb4 hb4' hL4 hbl H3 H2 H
  go_wp2_with fail
  refine (next_any _ _ _ _ w4 H4.out.1 (by omega)).mono ?_
  rintro e w5 ⟨rfl, hb5⟩
  rw [show maxId m4 = 4 from rfl]
  have H5 := Lib.hid (show _ ∧ _ from ⟨(H4.out.1.below hb5).more hb5.size, H4.out.2.trans (hb5.mono H4.out.2.size)⟩)
  clear hb5 H4
  go_wp2_with fail
  refine (plan_any _ _ _ _ w5 (H5.out.1.take (k := 3) (by omega)) (fun m hm => m4_ok m (List.mem_of_mem_take hm)) (by omega)).mono ?_
  rintro e w6 ⟨v, p, rfl, hp, hrow, hb6⟩
  rw [plan_m3 hp] at hrow
  obtain ⟨A6, c6, rfl, _, hI⟩ := ownsRow_ints hrow rfl
  have H6 := Lib.hid (H5.out.2.trans (hb6.mono H5.out.2.size))
  clear hI hb6 hrow hp p H5
  go_wp2_with fail
  refine (next_any _ _ _ _ w6 Lst.nil (by omega)).mono ?_
  rintro e w7 ⟨rfl, hb7⟩
  have H7 := Lib.hid (H6.out.trans (hb7.mono H6.out.size))
  rw [show maxId [] = 0 from rfl]
  clear hb7 H6
  go_wp2
  go_ret
  exact ⟨rfl, H7.out⟩
end Go.Proofs.Ytglafbfbgjihbaa
