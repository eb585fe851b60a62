/- The document's Cmp of two lists of labels. The document's Keep, Without. Cut out of Turn8. -/
import Derived.Test.YtajaijidecomdaaGreatDoorG03
import Derived.Test.YtajaijidecomdaaGreatDoorTurn7
namespace Go.Proofs.YtajaijidecomdaaGreatDoor
open Go.RowKit Go.Lib

/-- Two labels, by what the document asks of them. -/
theorem labelC_cases (x y : Lb) :
    (labelC x y = -1 ∧ Op.bytesLess x.nm.toList y.nm.toList = true) ∨
    (labelC x y = -1 ∧ Op.bytesLess x.nm.toList y.nm.toList = false ∧ (x.nm.toList == y.nm.toList) = true ∧ Op.bytesLess x.vl.toList y.vl.toList = true) ∨
    (labelC x y = 0 ∧ Op.bytesLess x.nm.toList y.nm.toList = false ∧ (x.nm.toList == y.nm.toList) = true ∧ Op.bytesLess x.vl.toList y.vl.toList = false ∧ (x.vl.toList == y.vl.toList) = true) ∨
    (labelC x y = 1 ∧ Op.bytesLess x.nm.toList y.nm.toList = false ∧ (x.nm.toList == y.nm.toList) = true ∧ Op.bytesLess x.vl.toList y.vl.toList = false ∧ (x.vl.toList == y.vl.toList) = false) ∨
    (labelC x y = 1 ∧ Op.bytesLess x.nm.toList y.nm.toList = false ∧ (x.nm.toList == y.nm.toList) = false) := by
  unfold labelC textC
  cases h1 : Op.bytesLess x.nm.toList y.nm.toList with
  | true => exact .inl ⟨by simp, rfl⟩
  | false =>
    cases h2 : Op.bytesLess y.nm.toList x.nm.toList with
    | true =>
      have h3 : (x.nm.toList == y.nm.toList) = false := by rw [Bool.beq_comm]; exact less_ne h2
      exact .inr (.inr (.inr (.inr ⟨by simp, rfl, h3⟩)))
    | false =>
      have h3 := less_eq h1 h2
      cases g1 : Op.bytesLess x.vl.toList y.vl.toList with
      | true => exact .inr (.inl ⟨by simp, rfl, h3, rfl⟩)
      | false =>
        cases g2 : Op.bytesLess y.vl.toList x.vl.toList with
        | true =>
          have g3 : (x.vl.toList == y.vl.toList) = false := by rw [Bool.beq_comm]; exact less_ne g2
          exact .inr (.inr (.inr (.inl ⟨by simp, rfl, h3, rfl, g3⟩)))
        | false => exact .inr (.inr (.inl ⟨by simp, rfl, h3, rfl, less_eq g1 g2⟩))
set_option maxHeartbeats 4000000 in
set_option maxRecDepth 100000 in
theorem refCmp_any (A A' : Option Addr) (n c n' c' : Nat) (la lb : List Lb) (w : World) (hA : Lst Lb.cells 2 w w.heap.size A n la) (hB : Lst Lb.cells 2 w w.heap.size A' n' lb) (hn : n ≤ 1099511627776) (hn' : n' ≤ 1099511627776) :
    Calls Tryz.prog 28 #[.slice A n c, .slice A' n' c'] w fun e w' => e = .returned (.int .i64 (labelsC la lb)) ∧ Below w.heap.size w w' := by
  obtain ⟨r, hr⟩ : ∃ r, labelsC la lb = r := ⟨_, rfl⟩
  rw [hr]
  have HL := Lib.hid (show _ ∧ _ ∧ _ from ⟨hA, hB, hr⟩)
  clear hA hB hr
  go_enter Tryz.func28, Tryz.ntmps28
  go_wp2
  go_loopw [5] (fun iv wr => ∃ k q : Nat, k ≤ n ∧ k ≤ n' ∧ iv = .int .i64 k ∧ wr = w.drewN q ∧ Hid (lexC labelC (la.drop k) (lb.drop k) = r)) (fun iv _ => n - (intOf iv).toNat)
  case atStart => exact ⟨0, 0, Nat.zero_le _, Nat.zero_le _, rfl, rfl, Lib.hid HL.out.2.2⟩
  case round =>
    obtain ⟨k, q, hk, hk', rfl, rfl, HE⟩ := hrel
    have i0 : (0 : Int) ≤ (k : Int) := by omega
    by_cases hlt : k < n
    · have i1 : (k : Int) < (n : Int) := by omega
      by_cases hlt2 : k < n'
      · have i2 : (k : Int) < (n' : Int) := by omega
        obtain ⟨b, off, x, rfl, hb, hx, hc⟩ := HL.out.1.at hlt
        obtain ⟨b', off', y, rfl, hb', hy, hc'⟩ := HL.out.2.1.at hlt2
        have c0 := hc 0 _ rfl
        have c1 := hc 1 _ rfl
        have d0 := hc' 0 _ rfl
        have d1 := hc' 1 _ rfl
        simp only [Nat.add_zero] at c0 d0
        have hdr := lexC_drop (c := labelC) hx hy
        have HD := Lib.hid hdr
        clear hc hc' hx hy hdr
        rcases labelC_cases x y with ⟨hl, p1⟩ | ⟨hl, p1, p2, p3⟩ | ⟨hl, p1, p2, p3, p4⟩ | ⟨hl, p1, p2, p3, p4⟩ | ⟨hl, p1, p2⟩
        case inr.inr.inl =>
          have HG : Hid (lexC labelC (la.drop (k + 1)) (lb.drop (k + 1)) = r) := Lib.hid (by rw [← HE.out, HD.out, if_pos hl])
          clear hl
          go_wp2_with (go_quiet (fail))
          go_roundw
          case measure => simp [intOf]; omega
          case rel => exact ⟨k + 1, _, hlt, hlt2, by simp, by first | rfl | exact World.drewN_drewN _ _ _, HG⟩
        all_goals
          have hr := HE.out.symm.trans HD.out
          rw [hl] at hr
          simp at hr
          subst hr
          clear hl
          go_wp2_with (go_quiet (fail))
          go_ret
          exact ⟨rfl, by first | exact below_drewN (Below.refl _ _) _ | exact below_drewN (below_drewN (Below.refl _ _) _) _ | exact below_drewN (below_drewN (below_drewN (Below.refl _ _) _) _) _⟩
      · have i2 : ¬ (k : Int) < (n' : Int) := by omega
        obtain rfl : k = n' := by omega
        have hr : r = 1 := by
          rw [← HE.out, List.drop_eq_nil_of_le (by have := HL.out.2.1.1; omega : lb.length ≤ k), List.drop_eq_getElem_cons (by have := HL.out.1.1; omega : k < la.length)]
          rfl
        subst hr
        have i3 : ¬ (n : Int) < (k : Int) := by omega
        go_wp2_with (go_quiet (fail))
        go_ret
        exact ⟨rfl, by first | exact below_drewN (Below.refl _ _) _ | exact below_drewN (below_drewN (Below.refl _ _) _) _ | exact below_drewN (below_drewN (below_drewN (Below.refl _ _) _) _) _⟩
    · have i1 : ¬ (k : Int) < (n : Int) := by omega
      obtain rfl : k = n := by omega
      have hd : la.drop k = [] := List.drop_eq_nil_of_le (by have := HL.out.1.1; omega)
      by_cases hlt2 : k < n'
      · have hr : r = -1 := by
          rw [← HE.out, hd, List.drop_eq_getElem_cons (by have := HL.out.2.1.1; omega : k < lb.length)]
          rfl
        subst hr
        have i3 : (k : Int) < (n' : Int) := by omega
        clear hd
        go_wp2_with (go_quiet (fail))
        go_ret
        exact ⟨rfl, by first | exact below_drewN (Below.refl _ _) _ | exact below_drewN (below_drewN (Below.refl _ _) _) _ | exact below_drewN (below_drewN (below_drewN (Below.refl _ _) _) _) _⟩
      · obtain rfl : k = n' := by omega
        have hr : r = 0 := by
          rw [← HE.out, hd, List.drop_eq_nil_of_le (by have := HL.out.2.1.1; omega : lb.length ≤ k)]
          rfl
        subst hr
        clear hd
        go_wp2_with (go_quiet (fail))
        go_ret
        exact ⟨rfl, by first | exact below_drewN (Below.refl _ _) _ | exact below_drewN (below_drewN (Below.refl _ _) _) _ | exact below_drewN (below_drewN (below_drewN (Below.refl _ _) _) _) _⟩
end Go.Proofs.YtajaijidecomdaaGreatDoor
namespace Go.Proofs.YtajaijidecomdaaGreatDoor
open Go.RowKit Go.Lib Go.Maps Go.WideMaps Go.WideShapes
/-- A filter, a step on. -/
theorem filter_step {α : Type} {p : α → Bool} {l : List α} {k : Nat} {x : α} (hx : l[k]? = some x) : (l.take (k + 1)).filter p = (l.take k).filter p ++ (if p x = true then [x] else []) := by
  obtain ⟨h1, h2⟩ := List.getElem?_eq_some_iff.1 hx
  rw [List.take_succ_eq_append_getElem h1, List.filter_append, h2]
  congr 1
  simp [List.filter_cons]
set_option maxHeartbeats 2000000 in
set_option maxRecDepth 100000 in
theorem refKeep_any (A A' : Option Addr) (n c n' c' : Nat) (l : List Lb) (names : List ByteArray) (w : World) (hL : Lst Lb.cells 2 w w.heap.size A n l) (hM : Lst encTx 1 w w.heap.size A' n' names) (hn : n ≤ 100000) (hn' : n' ≤ 1099511627776) :
    Calls Tryz.prog 107 #[.slice A n c, .slice A' n' c'] w (OwnedL (keepL l names) w) := by
  obtain ⟨i0, hi, hz0, hz1, hz2⟩ := info_parts Tryz.infoLabel
  have HI := Lib.hid (show _ ∧ _ ∧ _ ∧ _ from ⟨hi, hz0, hz1, hz2⟩)
  have HL := Lib.hid (show _ ∧ _ from ⟨hL, hM⟩)
  clear hL hM hi hz0 hz1 hz2
  go_enter Tryz.func107, Tryz.ntmps107
  go_wp2
  go_loopw [5, 6, 7] (fun v i _ wr => ∃ k : Nat, k ≤ n ∧ i = .int .i64 k ∧ Hid (wr.ownsRow w.heap.size 104 2 v (keepL (l.take k) names).length ((keepL (l.take k) names).flatMap Lb.cells) ∧ Below w.heap.size w wr)) (fun _ i _ _ => n - (intOf i).toNat)
  case atStart => exact ⟨0, Nat.zero_le _, rfl, Lib.hid ⟨World.ownsRow_nil _ _ _ _, Below.refl _ _⟩⟩
  case round =>
    obtain ⟨k, hk, rfl, HR⟩ := hrel
    by_cases hlt : k < n
    · have i0' : (0 : Int) ≤ (k : Int) := by omega
      have i1 : (k : Int) < (n : Int) := by omega
      obtain ⟨b, off, x, rfl, hb, hx, hcl⟩ := HL.out.1.at hlt
      have c0 := (HR.out.2.cell (p := ⟨b, off + k * 2 + 0, none⟩) hb).trans (hcl 0 _ rfl)
      have c1 := (HR.out.2.cell (p := ⟨b, off + k * 2 + 1, none⟩) hb).trans (hcl 1 _ rfl)
      simp only [Nat.add_zero] at c0
      have hst : keepL (l.take (k + 1)) names = keepL (l.take k) names ++ (if (fun x => inT names x.nm) x = true then [x] else []) := filter_step hx
      have hlen : (keepL (l.take k) names).length ≤ k := by
        have h1 : (keepL (l.take k) names).length ≤ (l.take k).length := List.length_filter_le _ _
        have h2 := List.length_take_le k l
        omega
      have hhas := has_any A' n' c' names x.nm wr ((HL.out.2.below HR.out.2).more HR.out.2.size) hn'
      have hpx : (fun x => inT names x.nm) x = inT names x.nm := rfl
      generalize keepL (l.take k) names = fl at hst hlen HR
      rw [hpx] at hst
      generalize inT names x.nm = r at hst hhas
      have HX := Lib.hid (show _ ∧ _ ∧ _ from ⟨hst, hlen, hhas⟩)
      clear hst hlen hhas hpx hcl hx
      cases r with
      | false =>
        have HG : Hid (keepL (l.take (k + 1)) names = fl) := Lib.hid (by have := HX.out.1; simpa using this)
        go_wp2_with (first | (go_at_call 168; refine HX.out.2.2.mono ?_; rintro e w1 ⟨rfl, q, hq⟩; have H1 := Lib.hid (show w1.ownsRow w.heap.size 104 2 u5 fl.length (fl.flatMap Lb.cells) ∧ Below w.heap.size w w1 from ⟨by (rw [hq]; exact HR.out.1), hq ▸ below_drewN HR.out.2 q⟩); clear hq) | go_quiet (fail))
        go_roundw
        case measure => simp [intOf]; omega
        case rel => exact ⟨k + 1, hlt, by simp, by rw [HG.out]; first | exact H1 | exact Lib.hid ⟨H1.out.1, below_drewN H1.out.2 _⟩⟩
      | true =>
        have HG : Hid (keepL (l.take (k + 1)) names = fl ++ [x]) := Lib.hid (by have := HX.out.1; simpa using this)
        obtain ⟨hi, hz0, hz1, hz2⟩ := HI.out
        have hfl := HX.out.2.1
        go_wp2_with (first
          | (go_at_call 168; refine HX.out.2.2.mono ?_; rintro e w1 ⟨rfl, q, hq⟩; have H1 := Lib.hid (show w1.ownsRow w.heap.size 104 2 u5 fl.length (fl.flatMap Lb.cells) ∧ Below w.heap.size w w1 from ⟨by (rw [hq]; exact HR.out.1), hq ▸ below_drewN HR.out.2 q⟩); have d0 := (show w1.cell? _ = wr.cell? _ by rw [hq]; rfl).trans c0; have d1 := (show w1.cell? _ = wr.cell? _ by rw [hq]; rfl).trans c1; clear hq)
          | go_quiet (fail)
          | (at_builtin; refine wpList_append_own _ rfl _ _ 88 rfl w.heap.size 104 i0 _ 2 32 Tryz.underlying88 hi hz0 hz1 hz2 rfl (by omega) _ fl.length (fl.flatMap Lb.cells) rfl (H1.out.1.alloc _) ⟨w1.heap.size, 0, none⟩ 1 1 x.cells rfl rfl (cells_newL w1 x.cells _) (by simp [Lb.cells, Value.oneCell']) (by unfold maxLen; omega) (by omega) (by have := H1.out.2.size; simp; omega) ?_; intro v5 w5 ho5 hg5 _; have H5 := Lib.hid (show w5.ownsRow w.heap.size 104 2 v5 (keepL (l.take (k + 1)) names).length ((keepL (l.take (k + 1)) names).flatMap Lb.cells) ∧ Below w.heap.size w w5 from ⟨by (rw [HG.out, List.length_append, List.flatMap_append, List.flatMap_singleton]; exact ho5), (H1.out.2.alloc H1.out.2.size _).grown hg5 (by have := H1.out.2.size; simp; omega) (fun j hj => (H1.out.1.lt j hj).1)⟩); clear ho5 hg5))
        go_roundw
        case measure => simp [intOf]; omega
        case rel => exact ⟨k + 1, hlt, by simp, H5⟩
    · have hkn : k = n := by omega
      have hfl : l.take k = l := by rw [hkn, ← HL.out.1.1]; exact List.take_length
      rw [hfl] at HR
      go_wp2
      go_ret
      exact ⟨_, rfl, HR.out.1, HR.out.2⟩
set_option maxHeartbeats 2000000 in
set_option maxRecDepth 100000 in
theorem refWithout_any (A A' : Option Addr) (n c n' c' : Nat) (l : List Lb) (names : List ByteArray) (w : World) (hL : Lst Lb.cells 2 w w.heap.size A n l) (hM : Lst encTx 1 w w.heap.size A' n' names) (hn : n ≤ 100000) (hn' : n' ≤ 1099511627776) :
    Calls Tryz.prog 108 #[.slice A n c, .slice A' n' c'] w (OwnedL (lessL l names) w) := by
  obtain ⟨i0, hi, hz0, hz1, hz2⟩ := info_parts Tryz.infoLabel
  have HI := Lib.hid (show _ ∧ _ ∧ _ ∧ _ from ⟨hi, hz0, hz1, hz2⟩)
  have HL := Lib.hid (show _ ∧ _ from ⟨hL, hM⟩)
  clear hL hM hi hz0 hz1 hz2
  go_enter Tryz.func108, Tryz.ntmps108
  go_wp2
  go_loopw [5, 6, 7] (fun v i _ wr => ∃ k : Nat, k ≤ n ∧ i = .int .i64 k ∧ Hid (wr.ownsRow w.heap.size 104 2 v (lessL (l.take k) names).length ((lessL (l.take k) names).flatMap Lb.cells) ∧ Below w.heap.size w wr)) (fun _ i _ _ => n - (intOf i).toNat)
  case atStart => exact ⟨0, Nat.zero_le _, rfl, Lib.hid ⟨World.ownsRow_nil _ _ _ _, Below.refl _ _⟩⟩
  case round =>
    obtain ⟨k, hk, rfl, HR⟩ := hrel
    by_cases hlt : k < n
    · have i0' : (0 : Int) ≤ (k : Int) := by omega
      have i1 : (k : Int) < (n : Int) := by omega
      obtain ⟨b, off, x, rfl, hb, hx, hcl⟩ := HL.out.1.at hlt
      have c0 := (HR.out.2.cell (p := ⟨b, off + k * 2 + 0, none⟩) hb).trans (hcl 0 _ rfl)
      have c1 := (HR.out.2.cell (p := ⟨b, off + k * 2 + 1, none⟩) hb).trans (hcl 1 _ rfl)
      simp only [Nat.add_zero] at c0
      have hst : lessL (l.take (k + 1)) names = lessL (l.take k) names ++ (if (fun x => !inT names x.nm) x = true then [x] else []) := filter_step hx
      have hlen : (lessL (l.take k) names).length ≤ k := by
        have h1 : (lessL (l.take k) names).length ≤ (l.take k).length := List.length_filter_le _ _
        have h2 := List.length_take_le k l
        omega
      have hhas := has_any A' n' c' names x.nm wr ((HL.out.2.below HR.out.2).more HR.out.2.size) hn'
      have hpx : (fun x => !inT names x.nm) x = (!inT names x.nm) := rfl
      generalize lessL (l.take k) names = fl at hst hlen HR
      rw [hpx] at hst
      generalize inT names x.nm = r at hst hhas
      have HX := Lib.hid (show _ ∧ _ ∧ _ from ⟨hst, hlen, hhas⟩)
      clear hst hlen hhas hpx hcl hx
      cases r with
      | true =>
        have HG : Hid (lessL (l.take (k + 1)) names = fl) := Lib.hid (by have := HX.out.1; simpa using this)
        go_wp2_with (first | (go_at_call 168; refine HX.out.2.2.mono ?_; rintro e w1 ⟨rfl, q, hq⟩; have H1 := Lib.hid (show w1.ownsRow w.heap.size 104 2 u5 fl.length (fl.flatMap Lb.cells) ∧ Below w.heap.size w w1 from ⟨by (rw [hq]; exact HR.out.1), hq ▸ below_drewN HR.out.2 q⟩); clear hq) | go_quiet (fail))
        go_roundw
        case measure => simp [intOf]; omega
        case rel => exact ⟨k + 1, hlt, by simp, by rw [HG.out]; first | exact H1 | exact Lib.hid ⟨H1.out.1, below_drewN H1.out.2 _⟩⟩
      | false =>
        have HG : Hid (lessL (l.take (k + 1)) names = fl ++ [x]) := Lib.hid (by have := HX.out.1; simpa using this)
        obtain ⟨hi, hz0, hz1, hz2⟩ := HI.out
        have hfl := HX.out.2.1
        go_wp2_with (first
          | (go_at_call 168; refine HX.out.2.2.mono ?_; rintro e w1 ⟨rfl, q, hq⟩; have H1 := Lib.hid (show w1.ownsRow w.heap.size 104 2 u5 fl.length (fl.flatMap Lb.cells) ∧ Below w.heap.size w w1 from ⟨by (rw [hq]; exact HR.out.1), hq ▸ below_drewN HR.out.2 q⟩); have d0 := (show w1.cell? _ = wr.cell? _ by rw [hq]; rfl).trans c0; have d1 := (show w1.cell? _ = wr.cell? _ by rw [hq]; rfl).trans c1; clear hq)
          | go_quiet (fail)
          | (at_builtin; refine wpList_append_own _ rfl _ _ 88 rfl w.heap.size 104 i0 _ 2 32 Tryz.underlying88 hi hz0 hz1 hz2 rfl (by omega) _ fl.length (fl.flatMap Lb.cells) rfl (H1.out.1.alloc _) ⟨w1.heap.size, 0, none⟩ 1 1 x.cells rfl rfl (cells_newL w1 x.cells _) (by simp [Lb.cells, Value.oneCell']) (by unfold maxLen; omega) (by omega) (by have := H1.out.2.size; simp; omega) ?_; intro v5 w5 ho5 hg5 _; have H5 := Lib.hid (show w5.ownsRow w.heap.size 104 2 v5 (lessL (l.take (k + 1)) names).length ((lessL (l.take (k + 1)) names).flatMap Lb.cells) ∧ Below w.heap.size w w5 from ⟨by (rw [HG.out, List.length_append, List.flatMap_append, List.flatMap_singleton]; exact ho5), (H1.out.2.alloc H1.out.2.size _).grown hg5 (by have := H1.out.2.size; simp; omega) (fun j hj => (H1.out.1.lt j hj).1)⟩); clear ho5 hg5))
        go_roundw
        case measure => simp [intOf]; omega
        case rel => exact ⟨k + 1, hlt, by simp, H5⟩
    · have hkn : k = n := by omega
      have hfl : l.take k = l := by rw [hkn, ← HL.out.1.1]; exact List.take_length
      rw [hfl] at HR
      go_wp2
      go_ret
      exact ⟨_, rfl, HR.out.1, HR.out.2⟩
end Go.Proofs.YtajaijidecomdaaGreatDoor
