/- The document's Cmp of two lists of labels. -/
import Derived.Test.YtajaijidecomdaaGreatDoorG03
namespace Go.Proofs.YtajaijidecomdaaGreatDoor
open Go.RowKit Go.Lib

/-- Two labels, by what the document asks of them. -/
theorem labelC_cases (x y : Lb) :
    (labelC x y = -1 ∧ Op.bytesLess x.nm.toList y.nm.toList = true) ∨
    (labelC x y = -1 ∧ Op.bytesLess x.nm.toList y.nm.toList = false ∧ (x.nm.toList == y.nm.toList) = true ∧ Op.bytesLess x.vl.toList y.vl.toList = true) ∨
    (labelC x y = 0 ∧ Op.bytesLess x.nm.toList y.nm.toList = false ∧ (x.nm.toList == y.nm.toList) = true ∧ Op.bytesLess x.vl.toList y.vl.toList = false ∧ (x.vl.toList == y.vl.toList) = true) ∨
    (labelC x y = 1 ∧ Op.bytesLess x.nm.toList y.nm.toList = false ∧ (x.nm.toList == y.nm.toList) = true ∧ Op.bytesLess x.vl.toList y.vl.toList = false ∧ (x.vl.toList == y.vl.toList) = false) ∨
    (labelC x y = 1 ∧ Op.bytesLess x.nm.toList y.nm.toList = false ∧ (x.nm.toList == y.nm.toList) = false) := by
  unfold labelC textC
  cases h1 : Op.bytesLess x.nm.toList y.nm.toList with
  | true => exact .inl ⟨by simp, rfl⟩
  | false =>
    cases h2 : Op.bytesLess y.nm.toList x.nm.toList with
    | true =>
      have h3 : (x.nm.toList == y.nm.toList) = false := by rw [Bool.beq_comm]; exact less_ne h2
      exact .inr (.inr (.inr (.inr ⟨by simp, rfl, h3⟩)))
    | false =>
      have h3 := less_eq h1 h2
      cases g1 : Op.bytesLess x.vl.toList y.vl.toList with
      | true => exact .inr (.inl ⟨by simp, rfl, h3, rfl⟩)
      | false =>
        cases g2 : Op.bytesLess y.vl.toList x.vl.toList with
        | true =>
          have g3 : (x.vl.toList == y.vl.toList) = false := by rw [Bool.beq_comm]; exact less_ne g2
          exact .inr (.inr (.inr (.inl ⟨by simp, rfl, h3, rfl, g3⟩)))
        | false => exact .inr (.inr (.inl ⟨by simp, rfl, h3, rfl, less_eq g1 g2⟩))
set_option maxHeartbeats 4000000 in
set_option maxRecDepth 100000 in
theorem refCmp_any (A A' : Option Addr) (n c n' c' : Nat) (la lb : List Lb) (w : World) (hA : Lst Lb.cells 2 w w.heap.size A n la) (hB : Lst Lb.cells 2 w w.heap.size A' n' lb) (hn : n ≤ 1099511627776) (hn' : n' ≤ 1099511627776) :
    Calls Tryz.prog 28 #[.slice A n c, .slice A' n' c'] w fun e w' => e = .returned (.int .i64 (labelsC la lb)) ∧ Below w.heap.size w w' := by
  obtain ⟨r, hr⟩ : ∃ r, labelsC la lb = r := ⟨_, rfl⟩
  rw [hr]
  have HL := Lib.hid (show _ ∧ _ ∧ _ from ⟨hA, hB, hr⟩)
  clear hA hB hr
  go_enter Tryz.func28, Tryz.ntmps28
  go_wp2
  go_loopw [5] (fun iv wr => ∃ k q : Nat, k ≤ n ∧ k ≤ n' ∧ iv = .int .i64 k ∧ wr = w.drewN q ∧ Hid (lexC labelC (la.drop k) (lb.drop k) = r)) (fun iv _ => n - (intOf iv).toNat)
  case atStart => exact ⟨0, 0, Nat.zero_le _, Nat.zero_le _, rfl, rfl, Lib.hid HL.out.2.2⟩
  case round =>
    obtain ⟨k, q, hk, hk', rfl, rfl, HE⟩ := hrel
    have i0 : (0 : Int) ≤ (k : Int) := by omega
    by_cases hlt : k < n
    · have i1 : (k : Int) < (n : Int) := by omega
      by_cases hlt2 : k < n'
      · have i2 : (k : Int) < (n' : Int) := by omega
        obtain ⟨b, off, x, rfl, hb, hx, hc⟩ := HL.out.1.at hlt
        obtain ⟨b', off', y, rfl, hb', hy, hc'⟩ := HL.out.2.1.at hlt2
        have c0 := hc 0 _ rfl
        have c1 := hc 1 _ rfl
        have d0 := hc' 0 _ rfl
        have d1 := hc' 1 _ rfl
        simp only [Nat.add_zero] at c0 d0
        have hdr := lexC_drop (c := labelC) hx hy
        have HD := Lib.hid hdr
        clear hc hc' hx hy hdr
        rcases labelC_cases x y with ⟨hl, p1⟩ | ⟨hl, p1, p2, p3⟩ | ⟨hl, p1, p2, p3, p4⟩ | ⟨hl, p1, p2, p3, p4⟩ | ⟨hl, p1, p2⟩
        case inr.inr.inl =>
          have HG : Hid (lexC labelC (la.drop (k + 1)) (lb.drop (k + 1)) = r) := Lib.hid (by rw [← HE.out, HD.out, if_pos hl])
          clear hl
          go_wp2_with (go_quiet (fail))
          go_roundw
          case measure => simp [intOf]; omega
          case rel => exact ⟨k + 1, _, hlt, hlt2, by simp, by first | rfl | exact World.drewN_drewN _ _ _, HG⟩
        all_goals
          have hr := HE.out.symm.trans HD.out
          rw [hl] at hr
          simp at hr
          subst hr
          clear hl
          go_wp2_with (go_quiet (fail))
          go_ret
          exact ⟨rfl, by first | exact below_drewN (Below.refl _ _) _ | exact below_drewN (below_drewN (Below.refl _ _) _) _ | exact below_drewN (below_drewN (below_drewN (Below.refl _ _) _) _) _⟩
      · have i2 : ¬ (k : Int) < (n' : Int) := by omega
        obtain rfl : k = n' := by omega
        have hr : r = 1 := by
          rw [← HE.out, List.drop_eq_nil_of_le (by have := HL.out.2.1.1; omega : lb.length ≤ k), List.drop_eq_getElem_cons (by have := HL.out.1.1; omega : k < la.length)]
          rfl
        subst hr
        have i3 : ¬ (n : Int) < (k : Int) := by omega
        go_wp2_with (go_quiet (fail))
        go_ret
        exact ⟨rfl, by first | exact below_drewN (Below.refl _ _) _ | exact below_drewN (below_drewN (Below.refl _ _) _) _ | exact below_drewN (below_drewN (below_drewN (Below.refl _ _) _) _) _⟩
    · have i1 : ¬ (k : Int) < (n : Int) := by omega
      obtain rfl : k = n := by omega
      have hd : la.drop k = [] := List.drop_eq_nil_of_le (by have := HL.out.1.1; omega)
      by_cases hlt2 : k < n'
      · have hr : r = -1 := by
          rw [← HE.out, hd, List.drop_eq_getElem_cons (by have := HL.out.2.1.1; omega : k < lb.length)]
          rfl
        subst hr
        have i3 : (k : Int) < (n' : Int) := by omega
        clear hd
        go_wp2_with (go_quiet (fail))
        go_ret
        exact ⟨rfl, by first | exact below_drewN (Below.refl _ _) _ | exact below_drewN (below_drewN (Below.refl _ _) _) _ | exact below_drewN (below_drewN (below_drewN (Below.refl _ _) _) _) _⟩
      · obtain rfl : k = n' := by omega
        have hr : r = 0 := by
          rw [← HE.out, hd, List.drop_eq_nil_of_le (by have := HL.out.2.1.1; omega : lb.length ≤ k)]
          rfl
        subst hr
        clear hd
        go_wp2_with (go_quiet (fail))
        go_ret
        exact ⟨rfl, by first | exact below_drewN (Below.refl _ _) _ | exact below_drewN (below_drewN (Below.refl _ _) _) _ | exact below_drewN (below_drewN (below_drewN (Below.refl _ _) _) _) _⟩
end Go.Proofs.YtajaijidecomdaaGreatDoor
