/- labels.Check. -/
import Derived.Test.YtchggapclmdpaaaGreatDoorSet7
namespace Go.Proofs.YtchggapclmdpaaaGreatDoor
open Go.RowKit Go.Lib Go.Sort

set_option maxHeartbeats 2000000 in
set_option maxRecDepth 100000 in
theorem check_any (A : Option Addr) (n c : Nat) (l : List Lb) (w : World) (hL : Lst Lb.cells 2 w w.heap.size A n l) (hbig : n ≤ 1099511627776) :
    Calls Tryz.prog 20 #[.slice A n c] w fun e w' => e = .returned (.int .u16 (checkE l)) ∧ Below w.heap.size w w' := by
  have hln := hL.1
  by_cases h64 : 64 < n
  · have he : checkE l = 72 := by unfold checkE; rw [hln, if_pos h64]
    have h64' : (64 : Int) < (n : Int) := by omega
    rw [he]
    clear hL
    go_enter Tryz.func20, Tryz.ntmps20
    go_wp2
    go_ret
    exact ⟨rfl, Below.refl _ _⟩
  · have h64' : ¬ (64 : Int) < (n : Int) := by omega
    have hc1 := containsLabel 62 Tryz.enterCheck1 badC checkBad A n c l w hL hbig
    have HL := Lib.hid hL
    cases hb : l.any badC with
    | true =>
      have he : checkE l = 70 := by unfold checkE; rw [hln, if_neg h64, hb]; rfl
      rw [hb] at hc1
      rw [he]
      clear hL
      go_enter Tryz.func20, Tryz.ntmps20
      go_wp2_with (go_at_call 56; refine hc1.mono ?_; rintro e w1 ⟨rfl, hb1⟩)
      go_ret
      exact ⟨rfl, hb1⟩
    | false =>
      rw [hb] at hc1
      have hc2 : ∀ w1, Below w.heap.size w w1 → Calls Tryz.prog 57 #[.slice A n c] w1 fun e w' => e = .returned (.bool (twiceN [] l)) ∧ Below w1.heap.size w1 w' := fun w1 h1 => twice_any A n c l w1 ((HL.out.below h1).more h1.size) hbig (badC_size hb)
      have hc3 : ∀ w1, Below w.heap.size w w1 → Calls Tryz.prog 63 #[.slice A n c, .func (.func 61) #[] #[]] w1 fun e w' => e = .returned (.bool (upB l)) ∧ Below w1.heap.size w1 w' := fun w1 h1 => isUp A n c l w1 ((HL.out.below h1).more h1.size) hbig
      have HC := Lib.hid (show _ ∧ _ from ⟨hc2, hc3⟩)
      clear hc2 hc3
      cases ht : twiceN [] l with
      | true =>
        have he : checkE l = 71 := by unfold checkE; rw [hln, if_neg h64, hb, ht]; rfl
        have HE := Lib.hid he
        clear he hb hL
        go_enter Tryz.func20, Tryz.ntmps20
        go_wp2_with (first
          | (go_at_call 56; refine hc1.mono ?_; rintro e w1 ⟨rfl, hb1⟩; have H1 := Lib.hid hb1; clear hb1)
          | (go_at_call 57; refine (HC.out.1 w1 H1.out).mono ?_; rw [ht]; rintro e w2 ⟨rfl, hb2⟩; have H2 := Lib.hid (H1.out.trans (hb2.mono H1.out.size)); clear hb2))
        go_ret
        exact ⟨by rw [HE.out]; rfl, H2.out⟩
      | false =>
        cases hu : upB l with
        | true =>
          have he : checkE l = 0 := by unfold checkE; rw [hln, if_neg h64, hb, ht, hu]; rfl
          have HE := Lib.hid he
          clear he hb hL
          go_enter Tryz.func20, Tryz.ntmps20
          go_wp2_with (first
            | (go_at_call 56; refine hc1.mono ?_; rintro e w1 ⟨rfl, hb1⟩; have H1 := Lib.hid hb1; clear hb1)
            | (go_at_call 57; refine (HC.out.1 w1 H1.out).mono ?_; rw [ht]; rintro e w2 ⟨rfl, hb2⟩; have H2 := Lib.hid (H1.out.trans (hb2.mono H1.out.size)); clear hb2)
            | (go_at_call 63; refine (HC.out.2 w2 H2.out).mono ?_; rw [hu]; rintro e w3 ⟨rfl, hb3⟩; have H3 := Lib.hid (H2.out.trans (hb3.mono H2.out.size)); clear hb3))
          go_ret
          exact ⟨by rw [HE.out]; rfl, H3.out⟩
        | false =>
          have he : checkE l = 70 := by unfold checkE; rw [hln, if_neg h64, hb, ht, hu]; rfl
          have HE := Lib.hid he
          clear he hb hL
          go_enter Tryz.func20, Tryz.ntmps20
          go_wp2_with (first
            | (go_at_call 56; refine hc1.mono ?_; rintro e w1 ⟨rfl, hb1⟩; have H1 := Lib.hid hb1; clear hb1)
            | (go_at_call 57; refine (HC.out.1 w1 H1.out).mono ?_; rw [ht]; rintro e w2 ⟨rfl, hb2⟩; have H2 := Lib.hid (H1.out.trans (hb2.mono H1.out.size)); clear hb2)
            | (go_at_call 63; refine (HC.out.2 w2 H2.out).mono ?_; rw [hu]; rintro e w3 ⟨rfl, hb3⟩; have H3 := Lib.hid (H2.out.trans (hb3.mono H2.out.size)); clear hb3))
          go_ret
          exact ⟨by rw [HE.out]; rfl, H3.out⟩
end Go.Proofs.YtchggapclmdpaaaGreatDoor
