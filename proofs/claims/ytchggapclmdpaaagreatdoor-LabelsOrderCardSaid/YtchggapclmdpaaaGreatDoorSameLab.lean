/- SameLabels: whether two lists of labels are the same. -/
import Derived.Test.YtchggapclmdpaaaGreatDoorLabCmp
namespace Go.Proofs.YtchggapclmdpaaaGreatDoor
open Go.RowKit Go.Lib

theorem labelsC_len {la lb : List Lb} (h : labelsC la lb = 0) : la.length = lb.length := by rw [(labelsC_cmp3.zero la lb).1 h]
set_option maxHeartbeats 1000000 in
set_option maxRecDepth 100000 in
theorem sameLabels_any (A A' : Option Addr) (n c n' c' : Nat) (la lb : List Lb) (w : World) (hA : Lst Lb.cells 2 w w.heap.size A n la) (hB : Lst Lb.cells 2 w w.heap.size A' n' lb) (hn : n ≤ 1099511627776) (hn' : n' ≤ 1099511627776) :
    Calls Tryz.prog 15 #[.slice A n c, .slice A' n' c'] w fun e w' => e = .returned (.bool (decide (labelsC la lb = 0))) ∧ ∃ q, w' = w.drewN q := by
  by_cases hnn : n = n'
  · subst hnn
    have HA := Lib.hid (show _ ∧ _ from ⟨hA, hB⟩)
    clear hA hB
    go_enter Tryz.func15, Tryz.ntmps15
    go_wp2
    go_loopw [5] (fun iv wr => ∃ k q : Nat, k ≤ n ∧ iv = .int .i64 k ∧ wr = w.drewN q ∧ Hid (labelsC la lb = lexC labelC (la.drop k) (lb.drop k))) (fun iv _ => n - (intOf iv).toNat)
    case atStart => exact ⟨0, 0, Nat.zero_le _, rfl, rfl, Lib.hid rfl⟩
    case round =>
      obtain ⟨k, q, hk, rfl, rfl, HE⟩ := hrel
      by_cases hlt : k < n
      · obtain ⟨b, off, x, rfl, hb, hx, hc⟩ := HA.out.1.at hlt
        obtain ⟨b', off', y, rfl, hb', hy, hc'⟩ := HA.out.2.at hlt
        have c0 := hc 0 _ rfl
        have c1 := hc 1 _ rfl
        have d0 := hc' 0 _ rfl
        have d1 := hc' 1 _ rfl
        simp only [Nat.add_zero] at c0 d0
        have i1 : (0 : Int) ≤ (k : Int) := by omega
        have i2 : (k : Int) < (n : Int) := by omega
        have hdr := lexC_drop (c := labelC) hx hy
        have HD := Lib.hid (show _ ∧ _ from ⟨hdr, HE.out⟩)
        clear hc hc' hx hy hdr HE
        by_cases h1 : x.nm = y.nm
        · have e1 : (x.nm.toList == y.nm.toList) = true := by rw [beq_iff_eq, h1]
          by_cases h2 : x.vl = y.vl
          · have e2 : (x.vl.toList == y.vl.toList) = true := by rw [beq_iff_eq, h2]
            have hxy : x = y := by cases x; cases y; simp_all
            go_wp2_with (go_quiet (fail))
            go_roundw
            case measure => simp [intOf]; omega
            case rel => exact ⟨k + 1, _, hlt, by simp, by first | rfl | exact World.drewN_drewN _ _ _, Lib.hid (by rw [HD.out.2, HD.out.1, if_pos ((labelC_cmp3.zero x y).2 hxy)])⟩
          · have e2 : (x.vl.toList == y.vl.toList) = false := by rw [beq_eq_false_iff_ne]; exact fun h => h2 (toList_inj h)
            have hxy : ¬ labelC x y = 0 := fun h => h2 (by rw [(labelC_cmp3.zero x y).1 h])
            go_wp2_with (go_quiet (fail))
            go_ret
            exact ⟨by rw [decide_eq_false (by rw [HD.out.2, HD.out.1, if_neg hxy]; exact hxy)]; rfl, _, by first | rfl | exact World.drewN_drewN _ _ _⟩
        · have e1 : (x.nm.toList == y.nm.toList) = false := by rw [beq_eq_false_iff_ne]; exact fun h => h1 (toList_inj h)
          have hxy : ¬ labelC x y = 0 := fun h => h1 (by rw [(labelC_cmp3.zero x y).1 h])
          go_wp2_with (go_quiet (fail))
          go_ret
          exact ⟨by rw [decide_eq_false (by rw [HD.out.2, HD.out.1, if_neg hxy]; exact hxy)]; rfl, _, by first | rfl | exact World.drewN_drewN _ _ _⟩
      · have he : labelsC la lb = 0 := by
          rw [HE.out, List.drop_eq_nil_of_le (by have := HA.out.1.1; omega), List.drop_eq_nil_of_le (by have := HA.out.2.1; omega)]
          rfl
        have HX := Lib.hid he
        clear he HE
        go_wp2
        go_ret
        exact ⟨by rw [decide_eq_true HX.out]; rfl, q, rfl⟩
  · have he : ¬ labelsC la lb = 0 := fun h => hnn (by rw [← hA.1, ← hB.1]; exact labelsC_len h)
    have hne : ¬ (n : Int) = (n' : Int) := by omega
    have HX := Lib.hid he
    clear hA hB he
    go_enter Tryz.func15, Tryz.ntmps15
    go_wp2
    go_ret
    exact ⟨by rw [decide_eq_false HX.out]; rfl, 0, rfl⟩
end Go.Proofs.YtchggapclmdpaaaGreatDoor
