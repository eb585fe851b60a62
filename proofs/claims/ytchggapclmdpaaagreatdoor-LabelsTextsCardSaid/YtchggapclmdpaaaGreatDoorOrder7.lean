/- LabelsOrder's walk: Cmp goes both ways, from two pairs to the third, and says 0 just of the same. -/
import Derived.Test.YtchggapclmdpaaaGreatDoorMuch7
import Derived.Test.YtchggapclmdpaaaGreatDoorKnown7
namespace Go.Proofs.YtchggapclmdpaaaGreatDoor
open Go.RowKit Go.Lib

theorem textC_range (x y : ByteArray) : -1 ≤ textC x y ∧ textC x y ≤ 1 := by
  unfold textC
  split
  · omega
  · split <;> omega
theorem labelC_range (x y : Lb) : -1 ≤ labelC x y ∧ labelC x y ≤ 1 := by
  have h1 := textC_range x.nm y.nm
  have h2 := textC_range x.vl y.vl
  unfold labelC
  split <;> omega
theorem labelsC_range : ∀ la lb : List Lb, -1 ≤ labelsC la lb ∧ labelsC la lb ≤ 1
  | [], [] => by decide
  | [], _ :: _ => by unfold labelsC lexC; decide
  | _ :: _, [] => by unfold labelsC lexC; decide
  | x :: la, y :: lb => by
    have h1 := labelC_range x y
    have h2 := labelsC_range la lb
    unfold labelsC at h2 ⊢
    unfold lexC
    split <;> omega
set_option maxHeartbeats 4000000 in
set_option maxRecDepth 100000 in
theorem order_any (A A' A'' : Option Addr) (n c n' c' n'' c'' : Nat) (la lb lc : List Lb) (w : World) (hA : Lst Lb.cells 2 w w.heap.size A n la) (hB : Lst Lb.cells 2 w w.heap.size A' n' lb) (hC : Lst Lb.cells 2 w w.heap.size A'' n'' lc)
    (hn : n ≤ 9223372036854775807) (hn' : n' ≤ 9223372036854775807) (hn'' : n'' ≤ 9223372036854775807) :
    Calls Tryz.prog 5 #[.slice A n c, .slice A' n' c', .slice A'' n'' c''] w fun e w' => e = .returned (.bool true) ∧ Below w.heap.size w w' := by
  have m1 := fun w1 (h1 : Below w.heap.size w w1) => much_any A n c la w1 ((hA.below h1).more h1.size) hn
  have m2 := fun w1 (h1 : Below w.heap.size w w1) => much_any A' n' c' lb w1 ((hB.below h1).more h1.size) hn'
  have m3 := fun w1 (h1 : Below w.heap.size w w1) => much_any A'' n'' c'' lc w1 ((hC.below h1).more h1.size) hn''
  have q1 := fun w1 (h1 : Below w.heap.size w w1) (g1 : n ≤ 300) (g2 : n' ≤ 300) => labelsCmp_any A A' n c n' c' la lb w1 ((hA.below h1).more h1.size) ((hB.below h1).more h1.size) (by omega) (by omega)
  have q2 := fun w1 (h1 : Below w.heap.size w w1) (g1 : n' ≤ 300) (g2 : n'' ≤ 300) => labelsCmp_any A' A'' n' c' n'' c'' lb lc w1 ((hB.below h1).more h1.size) ((hC.below h1).more h1.size) (by omega) (by omega)
  have q3 := fun w1 (h1 : Below w.heap.size w w1) (g1 : n ≤ 300) (g2 : n'' ≤ 300) => labelsCmp_any A A'' n c n'' c'' la lc w1 ((hA.below h1).more h1.size) ((hC.below h1).more h1.size) (by omega) (by omega)
  have q4 := fun w1 (h1 : Below w.heap.size w w1) (g1 : n' ≤ 300) (g2 : n ≤ 300) => labelsCmp_any A' A n' c' n c lb la w1 ((hB.below h1).more h1.size) ((hA.below h1).more h1.size) (by omega) (by omega)
  have q5 := fun w1 (h1 : Below w.heap.size w w1) (g1 : n ≤ 300) (g2 : n' ≤ 300) => sameLabels_any A A' n c n' c' la lb w1 ((hA.below h1).more h1.size) ((hB.below h1).more h1.size) (by omega) (by omega)
  have hsw := labelsC_cmp3.swap la lb
  have ht1 : 0 < labelsC la lb ∨ 0 < labelsC lb lc ∨ labelsC la lc ≤ 0 := by
    by_cases h1 : 0 < labelsC la lb
    · exact .inl h1
    · by_cases h2 : 0 < labelsC lb lc
      · exact .inr (.inl h2)
      · exact .inr (.inr (labelsC_cmp3.le_trans (x := la) (y := lb) (z := lc) (by omega) (by omega)))
  have ht2 : labelsC la lb = 0 → labelsC lb lc = labelsC la lc := fun h => by rw [(labelsC_cmp3.zero la lb).1 h]
  have hrg := labelsC_range la lb
  rw [hsw] at q4
  generalize labelsC la lb = ab at q1 q4 q5 hsw ht1 ht2 hrg
  generalize labelsC lb lc = bc at q2 ht1 ht2
  generalize labelsC la lc = ac at q3 ht1 ht2
  have l1 : muchB la = false → n ≤ 300 := fun h => by rw [← hA.1]; exact muchB_len h
  have l2 : muchB lb = false → n' ≤ 300 := fun h => by rw [← hB.1]; exact muchB_len h
  have l3 : muchB lc = false → n'' ≤ 300 := fun h => by rw [← hC.1]; exact muchB_len h
  generalize muchB la = y1 at m1 l1
  generalize muchB lb = y2 at m2 l2
  generalize muchB lc = y3 at m3 l3
  have HM := Lib.hid (show _ ∧ _ ∧ _ from ⟨m1, m2, m3⟩)
  have HQ := Lib.hid (show _ ∧ _ ∧ _ ∧ _ ∧ _ from ⟨q1, q2, q3, q4, q5⟩)
  have HT := Lib.hid (show _ ∧ _ from ⟨ht1, ht2⟩)
  have HL := Lib.hid (show _ ∧ _ ∧ _ from ⟨l1, l2, l3⟩)
  have B0 := Lib.hid (Below.refl w.heap.size w)
  clear l1 l2 l3 m1 m2 m3 q1 q2 q3 q4 q5 ht1 ht2 hsw hA hB hC
  cases y1 with
  | true =>
    go_enter Tryz.func5, Tryz.ntmps5
    go_wp2_with (go_at_call 9; refine (HM.out.1 _ B0.out).mono ?_; rintro e w1 ⟨rfl, q, rfl⟩)
    go_ret
    exact ⟨rfl, below_drewN B0.out q⟩
  | false =>
    cases y2 with
    | true =>
      go_enter Tryz.func5, Tryz.ntmps5
      go_wp2_with (first
        | (go_at_call 9; refine (HM.out.2.1 _ B1.out).mono ?_; rintro e w2 ⟨rfl, q, hq⟩; have B2 : Hid (Below w.heap.size w w2) := Lib.hid (hq ▸ below_drewN B1.out q); clear hq)
        | (go_at_call 9; refine (HM.out.1 _ B0.out).mono ?_; rintro e w1 ⟨rfl, q, hq⟩; have B1 : Hid (Below w.heap.size w w1) := Lib.hid (hq ▸ below_drewN B0.out q); clear hq))
      go_ret
      exact ⟨rfl, B2.out⟩
    | false =>
      cases y3 with
      | true =>
        go_enter Tryz.func5, Tryz.ntmps5
        go_wp2_with (first
          | (go_at_call 9; refine (HM.out.2.2 _ B2.out).mono ?_; rintro e w3 ⟨rfl, q, hq⟩; have B3 : Hid (Below w.heap.size w w3) := Lib.hid (hq ▸ below_drewN B2.out q); clear hq)
          | (go_at_call 9; refine (HM.out.2.1 _ B1.out).mono ?_; rintro e w2 ⟨rfl, q, hq⟩; have B2 : Hid (Below w.heap.size w w2) := Lib.hid (hq ▸ below_drewN B1.out q); clear hq)
          | (go_at_call 9; refine (HM.out.1 _ B0.out).mono ?_; rintro e w1 ⟨rfl, q, hq⟩; have B1 : Hid (Below w.heap.size w w1) := Lib.hid (hq ▸ below_drewN B0.out q); clear hq))
        go_ret
        exact ⟨rfl, B3.out⟩
      | false =>
        have hcase : ab = 1 ∨ (ab = -1 ∧ 0 < bc) ∨ (ab = -1 ∧ ¬ 0 < bc ∧ ac ≤ 0) ∨ (ab = 0 ∧ ac = bc ∧ 0 < bc) ∨ (ab = 0 ∧ ac = bc ∧ ¬ 0 < bc ∧ bc ≤ 0) := by
          have t1 := HT.out.1
          have t2 := HT.out.2
          omega
        clear hrg
        have a1 := HL.out.1 rfl
        have a2 := HL.out.2.1 rfl
        have a3 := HL.out.2.2 rfl
        rcases hcase with rfl | ⟨rfl, p1⟩ | ⟨rfl, p1, p2⟩ | ⟨rfl, rfl, p1⟩ | ⟨rfl, rfl, p1, p2⟩
        all_goals
          go_enter Tryz.func5, Tryz.ntmps5
          go_wp2_with (first
            | (go_at_call 9; refine (HM.out.2.2 _ B2.out).mono ?_; rintro e w3 ⟨rfl, q, hq⟩; have B3 : Hid (Below w.heap.size w w3) := Lib.hid (hq ▸ below_drewN B2.out q); clear hq)
            | (go_at_call 9; refine (HM.out.2.1 _ B1.out).mono ?_; rintro e w2 ⟨rfl, q, hq⟩; have B2 : Hid (Below w.heap.size w w2) := Lib.hid (hq ▸ below_drewN B1.out q); clear hq)
            | (go_at_call 9; refine (HM.out.1 _ B0.out).mono ?_; rintro e w1 ⟨rfl, q, hq⟩; have B1 : Hid (Below w.heap.size w w1) := Lib.hid (hq ▸ below_drewN B0.out q); clear hq)
            | (go_at_call 21; refine (HQ.out.2.2.2.1 _ B7.out a2 a1).mono ?_; rintro e w8 ⟨rfl, hb⟩; have B8 := Lib.hid (B7.out.trans (hb.mono B7.out.size)); clear hb)
            | (go_at_call 21; refine (HQ.out.2.2.1 _ B5.out a1 a3).mono ?_; rintro e w6 ⟨rfl, hb⟩; have B6 := Lib.hid (B5.out.trans (hb.mono B5.out.size)); clear hb)
            | (go_at_call 21; refine (HQ.out.2.1 _ B4.out a2 a3).mono ?_; rintro e w5 ⟨rfl, hb⟩; have B5 := Lib.hid (B4.out.trans (hb.mono B4.out.size)); clear hb)
            | (go_at_call 21; refine (HQ.out.1 _ B3.out a1 a2).mono ?_; rintro e w4 ⟨rfl, hb⟩; have B4 := Lib.hid (B3.out.trans (hb.mono B3.out.size)); clear hb)
            | (go_at_call 12; refine (known7 _).mono ?_; rintro e w7 ⟨rfl, hb⟩; have B7 := Lib.hid (B6.out.trans (hb.mono B6.out.size)); clear hb)
            | (go_at_call 15; refine (HQ.out.2.2.2.2 _ B8.out a1 a2).mono ?_; rintro e w9 ⟨rfl, q, hq⟩; have B9 : Hid (Below w.heap.size w w9) := Lib.hid (hq ▸ below_drewN B8.out q); clear hq))
          go_ret
          exact ⟨rfl, B9.out⟩
end Go.Proofs.YtchggapclmdpaaaGreatDoor
