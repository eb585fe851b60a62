/- Chapter 07's known round. -/
import Derived.Test.YtchggapclmdpaaaGreatDoorScan2
import Derived.Test.YtchggapclmdpaaaGreatDoorPrn7
import Derived.Test.YtchggapclmdpaaaGreatDoorGa
namespace Go.Proofs.YtchggapclmdpaaaGreatDoor
open Go.RowKit Go.Lib

def b2L : Lb := ⟨⟨#[98]⟩, ⟨#[50]⟩⟩
def c0L : Lb := ⟨⟨#[99]⟩, ⟨#[]⟩⟩
theorem known_set : setE [b2L, a1L, c0L] = 0 ∧ setL [b2L, a1L, c0L] = [a1L, b2L] := by
  refine ⟨by decide +kernel, ?_⟩
  have h1 : nameC a1L b2L < 0 := by decide +kernel
  have h2 : [b2L, a1L, c0L].filter fullV = [b2L, a1L] := by rfl
  unfold setL
  rw [h2]
  simp [intoL, h1]
theorem known_enc : checkE [a1L] = 0 ∧ encB [a1L] = [1, 1, 0, 97, 1, 0, 49] := by
  refine ⟨by decide +kernel, by decide +kernel⟩
theorem known_print : printB [a1L, bxL] = [123, 97, 61, 34, 49, 34, 44, 32, 98, 61, 34, 120, 34, 125] := by decide +kernel
theorem known_sizes : ∀ x ∈ [a1L, bxL], x.nm.size ≤ 100000 ∧ x.vl.size ≤ 100000 := by
  intro x hx
  simp only [List.mem_cons, List.not_mem_nil, or_false] at hx
  rcases hx with rfl | rfl <;> decide
set_option maxHeartbeats 2000000 in
set_option maxRecDepth 100000 in
theorem known7 (w : World) :
    Calls Tryz.prog 12 #[] w fun e w' => e = .returned (.bool true) ∧ Below w.heap.size w w' := by
  go_enter Tryz.func12, Tryz.ntmps12
  go_wp2_with (first
    | (go_at_call 19; refine (set_any _ 3 3 [b2L, a1L, c0L] _ (lst_block (heap_alloc_new w (.cells ([b2L, a1L, c0L].flatMap Lb.cells).toArray 94)) (by simp) rfl Lb.len) (by decide)).mono ?_; rintro e w1 ⟨v1, rfl, hb1, _, ho1⟩; rw [known_set.1]; have h1 := ho1 known_set.1; rw [known_set.2] at h1; obtain ⟨A1, c1, rfl, _, hL1⟩ := ownsRow_lst h1 rfl Lb.len; have H1 := Lib.hid (show _ ∧ Below w.heap.size w w1 from ⟨hL1, ((Below.refl _ w).alloc (Nat.le_refl _) _).trans (hb1.mono (by simp))⟩); clear hb1 ho1 h1 hL1)
    | (go_at_call 29; refine (encode_any _ 1 1 [a1L] _ (lst_block (heap_alloc_new w1 (.cells ([a1L].flatMap Lb.cells).toArray 94)) (by simp) rfl Lb.len) (by decide)).mono ?_; rintro e w2 ⟨v2, rfl, hb2, _, ho2⟩; rw [known_enc.1]; have h2 := ho2 known_enc.1; rw [known_enc.2] at h2; have hb12 : Below w1.heap.size w1 w2 := ((Below.refl _ w1).alloc (Nat.le_refl _) _).trans (hb2.mono (by simp)); have H2 := Lib.hid (show _ ∧ _ ∧ Below w.heap.size w w2 from ⟨h2, (H1.out.1.below hb12).more hb12.size, H1.out.2.trans (hb12.mono H1.out.2.size)⟩); clear hb2 ho2 h2 hb12)
    | (go_at_call 10; refine (ex_parse _).mono ?_; rintro e w3 ⟨v3, rfl, ho3, hb3⟩; obtain ⟨A3, c3, rfl, _, hL3⟩ := ownsRow_lst ho3 rfl Lb.len; have H3 := Lib.hid (show _ ∧ _ ∧ _ ∧ Below w.heap.size w w3 from ⟨hL3, owns_below H2.out.1 hb3, (H2.out.2.1.below hb3).more hb3.size, H2.out.2.2.trans (hb3.mono H2.out.2.2.size)⟩); clear ho3 hL3 hb3)
    | (go_at_call 15; have hbA : Below w3.heap.size w3 (w3.alloc (.cells ([a1L, b2L].flatMap Lb.cells).toArray 94)) := (Below.refl _ _).alloc (Nat.le_refl _) _; refine (sameLabel_q A1 _ 2 c1 2 [a1L, b2L] _ ((H3.out.2.2.1.below hbA).more hbA.size) (lst_block (heap_alloc_new w3 (.cells ([a1L, b2L].flatMap Lb.cells).toArray 94)) (by simp) rfl Lb.len) (by decide)).mono ?_; rintro e w4 ⟨rfl, q, hq⟩; have hbB : Below w3.heap.size w3 w4 := hq ▸ below_drewN hbA q; clear hq; have H4 := Lib.hid (show _ ∧ _ from ⟨(H3.out.1.below hbB).more hbB.size, H3.out.2.2.2.trans (hbB.mono H3.out.2.2.2.size)⟩); have hcv := own_text (owns_below H3.out.2.1 hbB); clear hbA hbB)
    | (go_at_call 16; refine (print_any A3 2 c3 [a1L, bxL] _ H4.out.1 (by decide) known_sizes).mono ?_; rw [known_print]; rintro e w5 ⟨rfl, hb5⟩; have H5 := Lib.hid (H4.out.2.trans (hb5.mono H4.out.2.size)); clear hb5))
  go_ret
  exact ⟨rfl, H5.out⟩
end Go.Proofs.YtchggapclmdpaaaGreatDoor
