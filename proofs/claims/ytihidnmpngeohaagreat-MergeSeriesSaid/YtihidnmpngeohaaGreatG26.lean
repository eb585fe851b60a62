/- The document's Gone. The document's Cmp, with the world told: it draws alone (turned from RefCmp by genrefcmpq.py). -/
import Derived.Test.YtihidnmpngeohaaGreatG22
import Derived.Test.YtihidnmpngeohaaGreatG24
import Derived.Test.YtihidnmpngeohaaGreatRefIvs
namespace Go.Proofs.YtihidnmpngeohaaGreat
open Go.RowKit Go.Lib

def GonePost (gs : List (Int × Int)) (w : World) (e : Ending) (w' : World) : Prop := ∃ v, e = .returned v ∧ w'.ownsRow w.heap.size 25 2 v gs.length (gs.flatMap encI) ∧ Below w.heap.size w w'
set_option maxHeartbeats 4000000 in
set_option maxRecDepth 100000 in
theorem refGone_any (A A' : Option Addr) (n c n' c' : Nat) (ys : List Tv) (s : List Lb) (w : World) (hL : Lst encTb 3 w w.heap.size A n ys) (hS : Lst Lb.cells 2 w w.heap.size A' n' s) (hn : n ≤ 1000) (hn' : n' ≤ 100000) (hT : ∀ y ∈ ys, Tat w w.heap.size y) :
    Calls Tryz.prog 45 #[.slice A n c, .slice A' n' c'] w (GonePost (goneK labelsC (ys.map Tv.tb) s) w) := by
  obtain ⟨i1, hi, hz0, hz1, hz2⟩ := info_parts Tryz.infoInterval
  have HJ := Lib.hid (show _ ∧ _ ∧ _ ∧ _ from ⟨hi, hz0, hz1, hz2⟩)
  have HL := Lib.hid (show _ ∧ _ ∧ _ from ⟨hL, hS, hT⟩)
  clear hi hz0 hz1 hz2 hL hS hT
  go_enter Tryz.func45, Tryz.ntmps45
  go_wp2
  go_loopw [5, 6] (fun v iv wr => ∃ k : Nat, k ≤ n ∧ iv = .int .i64 k ∧ Hid (wr.ownsRow w.heap.size 25 2 v (goneK labelsC ((ys.take k).map Tv.tb) s).length ((goneK labelsC ((ys.take k).map Tv.tb) s).flatMap encI) ∧ Below w.heap.size w wr)) (fun _ iv _ => n - (intOf iv).toNat)
  case atStart => exact ⟨0, Nat.zero_le _, rfl, Lib.hid ⟨World.ownsRow_nil _ _ _ _, Below.refl _ _⟩⟩
  case round =>
    obtain ⟨k, hk, rfl, HR⟩ := hrel
    have hsw := HR.out.2.size
    by_cases hlt : k < n
    · obtain ⟨b, off, y, rfl, hb, hy, hcl⟩ := HL.out.1.at hlt
      have hty := HL.out.2.2 y (List.mem_of_getElem? hy)
      have c0 := (HR.out.2.cell (p := ⟨b, off + k * 3 + 0, none⟩) hb).trans (hcl 0 _ rfl)
      have d1 := hcl 1 _ rfl
      have d2 := hcl 2 _ rfl
      simp only [Nat.add_zero] at c0
      have hcon := refCmp_any y.A A' y.n y.c n' c' y.l s wr ((hty.on HR.out.2).lst) ((HL.out.2.1.below HR.out.2).more hsw) (by have := hty.few; omega) (by omega)
      have hlen : (goneK labelsC ((ys.take k).map Tv.tb) s).length ≤ k := by
        unfold goneK
        rw [List.length_map]
        refine Nat.le_trans (List.length_filter_le _ _) ?_
        rw [List.length_map, List.length_take]; omega
      have hnext : goneK labelsC ((ys.take (k + 1)).map Tv.tb) s = goneK labelsC ((ys.take k).map Tv.tb) s ++ if labelsC y.l s = 0 then [y.g] else [] := by
        obtain ⟨q1, q2⟩ := List.getElem?_eq_some_iff.1 hy
        rw [List.take_succ_eq_append_getElem q1, q2, List.map_append, goneK_append]
        congr 1
        unfold goneK
        by_cases h : labelsC y.l s = 0
        · simp [Tv.tb, h]
        · simp [Tv.tb, h]
      obtain ⟨gs, hgs⟩ : ∃ gs, goneK labelsC ((ys.take k).map Tv.tb) s = gs := ⟨_, rfl⟩
      rw [hgs] at hlen hnext
      have HRg := HR.out
      rw [hgs] at HRg
      have HG := Lib.hid HRg
      obtain ⟨r, hr⟩ : ∃ r, labelsC y.l s = r := ⟨_, rfl⟩
      rw [hr] at hcon hnext
      have HC := Lib.hid (show _ ∧ _ ∧ _ ∧ _ ∧ _ from ⟨hcon, hnext, d1, d2, hb⟩)
      have ii : (k : Int) < (n : Int) := by omega
      obtain ⟨hi, hz0, hz1, hz2⟩ := HJ.out
      clear hcl hy hty hcon hnext d1 d2 hgs HRg hr
      by_cases h0 : r = 0
      · subst h0
        have e1 : (0 : Int) == 0 := rfl
        go_wp2_with fail
        refine HC.out.1.mono ?_
        rintro e w5 ⟨rfl, hb5⟩
        have hB5 := HR.out.2.trans (hb5.mono hsw)
        have c1 := (hB5.cell (p := ⟨b, off + k * 3 + 1, none⟩) HC.out.2.2.2.2).trans HC.out.2.2.1
        have c2 := (hB5.cell (p := ⟨b, off + k * 3 + 2, none⟩) HC.out.2.2.2.2).trans HC.out.2.2.2.1
        have hs5 := hB5.size
        have H5 := Lib.hid (show _ ∧ _ from ⟨hB5, owns_below HG.out.1 hb5⟩)
        clear hb5 hB5 c0
        go_wp2_with (at_builtin; refine wpList_append_own _ rfl _ _ 86 rfl w.heap.size 25 i1 _ 2 16 Tryz.underlying86 hi hz0 hz1 hz2 rfl (by omega) _ gs.length _ rfl (H5.out.2.alloc _) ⟨w5.heap.size, 0, none⟩ 1 1 [.int .i64 y.g.1, .int .i64 y.g.2] rfl rfl (cells_newL w5 [.int .i64 y.g.1, .int .i64 y.g.2] _) (by simp [Value.oneCell']) (by unfold maxLen; omega) (by omega) (by simp; omega) ?_)
        intro v6 w6 ho6 hg6 _
        have H6 := Lib.hid (show w6.ownsRow w.heap.size 25 2 v6 (goneK labelsC ((ys.take (k + 1)).map Tv.tb) s).length ((goneK labelsC ((ys.take (k + 1)).map Tv.tb) s).flatMap encI) ∧ Below w.heap.size w w6 from ⟨by (rw [HC.out.2.1]; (first | rw [if_pos rfl] | rw [if_pos trivial]); rw [List.length_append, List.flatMap_append]; exact ho6), (H5.out.1.alloc hs5 _).grown hg6 (by simp; omega) (fun j hj => (HR.out.1.lt j hj).1)⟩)
        clear ho6 hg6
        go_wp2
        go_roundw
        case measure => simp [intOf]; omega
        case rel => exact ⟨k + 1, hlt, by simp, H6⟩
      · have e1 : (r == 0) = false := beq_eq_false_iff_ne.2 h0
        go_wp2_with fail
        refine HC.out.1.mono ?_
        rintro e w5 ⟨rfl, hb5⟩
        have H5 := Lib.hid (show w5.ownsRow w.heap.size 25 2 u5 (goneK labelsC ((ys.take (k + 1)).map Tv.tb) s).length ((goneK labelsC ((ys.take (k + 1)).map Tv.tb) s).flatMap encI) ∧ Below w.heap.size w w5 from ⟨by (rw [HC.out.2.1, if_neg h0, List.append_nil]; exact owns_below HG.out.1 hb5), HR.out.2.trans (hb5.mono hsw)⟩)
        clear hb5
        go_wp2
        go_roundw
        case measure => simp [intOf]; omega
        case rel => exact ⟨k + 1, hlt, by simp, H5⟩
    · obtain rfl : n = k := by omega
      have hf := HR.out.1
      rw [List.take_of_length_le (by have := HL.out.1.1; omega)] at hf
      have HF := Lib.hid hf
      clear hf
      go_wp2
      go_ret
      exact ⟨_, rfl, HF.out, HR.out.2⟩
end Go.Proofs.YtihidnmpngeohaaGreat
namespace Go.Proofs.YtihidnmpngeohaaGreat
open Go.RowKit Go.Lib

set_option maxHeartbeats 4000000 in
set_option maxRecDepth 100000 in
theorem refCmp_q (A A' : Option Addr) (n c n' c' : Nat) (la lb : List Lb) (w : World) (hA : Lst Lb.cells 2 w w.heap.size A n la) (hB : Lst Lb.cells 2 w w.heap.size A' n' lb) (hn : n ≤ 1099511627776) (hn' : n' ≤ 1099511627776) :
    Calls Tryz.prog 43 #[.slice A n c, .slice A' n' c'] w fun e w' => e = .returned (.int .i64 (labelsC la lb)) ∧ ∃ q, w' = w.drewN q := by
  obtain ⟨r, hr⟩ : ∃ r, labelsC la lb = r := ⟨_, rfl⟩
  rw [hr]
  have HL := Lib.hid (show _ ∧ _ ∧ _ from ⟨hA, hB, hr⟩)
  clear hA hB hr
  go_enter Tryz.func43, Tryz.ntmps43
  go_wp2
  go_loopw [5] (fun iv wr => ∃ k q : Nat, k ≤ n ∧ k ≤ n' ∧ iv = .int .i64 k ∧ wr = w.drewN q ∧ Hid (lexC labelC (la.drop k) (lb.drop k) = r)) (fun iv _ => n - (intOf iv).toNat)
  case atStart => exact ⟨0, 0, Nat.zero_le _, Nat.zero_le _, rfl, rfl, Lib.hid HL.out.2.2⟩
  case round =>
    obtain ⟨k, q, hk, hk', rfl, rfl, HE⟩ := hrel
    have i0 : (0 : Int) ≤ (k : Int) := by omega
    by_cases hlt : k < n
    · have i1 : (k : Int) < (n : Int) := by omega
      by_cases hlt2 : k < n'
      · have i2 : (k : Int) < (n' : Int) := by omega
        obtain ⟨b, off, x, rfl, hb, hx, hc⟩ := HL.out.1.at hlt
        obtain ⟨b', off', y, rfl, hb', hy, hc'⟩ := HL.out.2.1.at hlt2
        have c0 := hc 0 _ rfl
        have c1 := hc 1 _ rfl
        have d0 := hc' 0 _ rfl
        have d1 := hc' 1 _ rfl
        simp only [Nat.add_zero] at c0 d0
        have hdr := lexC_drop (c := labelC) hx hy
        have HD := Lib.hid hdr
        clear hc hc' hx hy hdr
        rcases labelC_cases x y with ⟨hl, p1⟩ | ⟨hl, p1, p2, p3⟩ | ⟨hl, p1, p2, p3, p4⟩ | ⟨hl, p1, p2, p3, p4⟩ | ⟨hl, p1, p2⟩
        case inr.inr.inl =>
          have HG : Hid (lexC labelC (la.drop (k + 1)) (lb.drop (k + 1)) = r) := Lib.hid (by rw [← HE.out, HD.out, if_pos hl])
          clear hl
          go_wp2_with (go_quiet (fail))
          go_roundw
          case measure => simp [intOf]; omega
          case rel => exact ⟨k + 1, _, hlt, hlt2, by simp, by first | rfl | exact World.drewN_drewN _ _ _, HG⟩
        all_goals
          have hr := HE.out.symm.trans HD.out
          rw [hl] at hr
          simp at hr
          subst hr
          clear hl
          go_wp2_with (go_quiet (fail))
          go_ret
          exact ⟨rfl, by first | exact ⟨_, rfl⟩ | exact ⟨_, by rw [World.drewN_drewN]⟩ | exact ⟨_, by rw [World.drewN_drewN, World.drewN_drewN]⟩⟩
      · have i2 : ¬ (k : Int) < (n' : Int) := by omega
        obtain rfl : k = n' := by omega
        have hr : r = 1 := by
          rw [← HE.out, List.drop_eq_nil_of_le (by have := HL.out.2.1.1; omega : lb.length ≤ k), List.drop_eq_getElem_cons (by have := HL.out.1.1; omega : k < la.length)]
          rfl
        subst hr
        have i3 : ¬ (n : Int) < (k : Int) := by omega
        go_wp2_with (go_quiet (fail))
        go_ret
        exact ⟨rfl, by first | exact ⟨_, rfl⟩ | exact ⟨_, by rw [World.drewN_drewN]⟩ | exact ⟨_, by rw [World.drewN_drewN, World.drewN_drewN]⟩⟩
    · have i1 : ¬ (k : Int) < (n : Int) := by omega
      obtain rfl : k = n := by omega
      have hd : la.drop k = [] := List.drop_eq_nil_of_le (by have := HL.out.1.1; omega)
      by_cases hlt2 : k < n'
      · have hr : r = -1 := by
          rw [← HE.out, hd, List.drop_eq_getElem_cons (by have := HL.out.2.1.1; omega : k < lb.length)]
          rfl
        subst hr
        have i3 : (k : Int) < (n' : Int) := by omega
        clear hd
        go_wp2_with (go_quiet (fail))
        go_ret
        exact ⟨rfl, by first | exact ⟨_, rfl⟩ | exact ⟨_, by rw [World.drewN_drewN]⟩ | exact ⟨_, by rw [World.drewN_drewN, World.drewN_drewN]⟩⟩
      · obtain rfl : k = n' := by omega
        have hr : r = 0 := by
          rw [← HE.out, hd, List.drop_eq_nil_of_le (by have := HL.out.2.1.1; omega : lb.length ≤ k)]
          rfl
        subst hr
        clear hd
        go_wp2_with (go_quiet (fail))
        go_ret
        exact ⟨rfl, by first | exact ⟨_, rfl⟩ | exact ⟨_, by rw [World.drewN_drewN]⟩ | exact ⟨_, by rw [World.drewN_drewN, World.drewN_drewN]⟩⟩
end Go.Proofs.YtihidnmpngeohaaGreat
