/- The document's Check: is it a set? -/
import Derived.Test.YtchggapclmdpaaaGreatDoorRefSet
namespace Go.Proofs.YtchggapclmdpaaaGreatDoor
open Go.RowKit Go.Lib

theorem upB_false {l : List Lb} {j : Nat} {x y : Lb} (hx : l[j]? = some x) (hy : l[j + 1]? = some y) (h : nameC y x < 0) : upB l = false := by
  unfold upB
  refine decide_eq_false fun H => ?_
  obtain ⟨h1, e1⟩ := List.getElem?_eq_some_iff.1 hx
  obtain ⟨h2, e2⟩ := List.getElem?_eq_some_iff.1 hy
  refine H j (by omega) ?_
  rw [getElem!_pos l (j + 1) h2, getElem!_pos l j h1, e1, e2]
  exact h
theorem upB_true {l : List Lb} (H : ∀ j x y, l[j]? = some x → l[j + 1]? = some y → ¬ nameC y x < 0) : upB l = true := by
  unfold upB
  refine decide_eq_true fun j hj => ?_
  rw [getElem!_pos l (j + 1) (by omega), getElem!_pos l j (by omega)]
  exact H j _ _ (List.getElem?_eq_getElem _) (List.getElem?_eq_getElem _)
theorem twice_differ {l : List Lb} (h : twiceN [] l = false) {j : Nat} {x y : Lb} (hx : l[j]? = some x) (hy : l[j + 1]? = some y) : (y.nm.toList == x.nm.toList) = false := by
  have hA := (twiceN_apart l [] h).1
  rw [List.pairwise_iff_getElem] at hA
  obtain ⟨h1, e1⟩ := List.getElem?_eq_some_iff.1 hx
  obtain ⟨h2, e2⟩ := List.getElem?_eq_some_iff.1 hy
  have := hA j (j + 1) h1 h2 (by omega)
  rw [e1, e2] at this
  rw [beq_eq_false_iff_ne]
  intro e
  rw [ByteArray.toList_eq, ByteArray.toList_eq] at e
  exact this e.symm
set_option maxHeartbeats 4000000 in
set_option maxRecDepth 100000 in
theorem refCheck_any (A : Option Addr) (n c : Nat) (l : List Lb) (w : World) (hL : Lst Lb.cells 2 w w.heap.size A n l) (hbig : n ≤ 1000000) :
    Calls Tryz.prog 26 #[.slice A n c] w fun e w' => e = .returned (.int .u16 (checkE l)) ∧ Below w.heap.size w w' := by
  obtain ⟨r, hr⟩ : ∃ r, checkE l = r := ⟨_, rfl⟩
  rw [hr]
  have htw := fun q => refTwice_any A n c l (w.drewN q) (hL.keep fun _ _ => rfl) (by omega)
  have hln := hL.1
  by_cases h64 : 64 < n
  · have hr2 : r = 72 := by rw [← hr]; unfold checkE; rw [hln, if_pos h64]
    subst hr2
    have h64' : (64 : Int) < (n : Int) := by omega
    clear hL hr htw
    go_enter Tryz.func26, Tryz.ntmps26
    go_wp2
    go_ret
    exact ⟨rfl, Below.refl _ _⟩
  have hr2 : r = if l.any badC then 70 else if twiceN [] l then 71 else if upB l then 0 else 70 := by rw [← hr]; unfold checkE; rw [hln, if_neg h64]
  have h64' : ¬ (64 : Int) < (n : Int) := by omega
  have HL := Lib.hid (show _ ∧ _ ∧ _ from ⟨hL, hr2, htw⟩)
  clear hL hr htw hln hr2
  go_enter Tryz.func26, Tryz.ntmps26
  go_wp2
  clear h64'
  go_loopw [3] (fun iv wr => ∃ k q : Nat, k ≤ n ∧ iv = .int .i64 k ∧ wr = w.drewN q ∧ Hid ((l.take k).any badC = false)) (fun iv _ => n - (intOf iv).toNat)
  case atStart => exact ⟨0, 0, Nat.zero_le _, rfl, rfl, Lib.hid rfl⟩
  case round =>
    obtain ⟨k, q, hk, rfl, rfl, HE⟩ := hrel
    have i0 : (0 : Int) ≤ (k : Int) := by omega
    by_cases hlt : k < n
    · have i1 : (k : Int) < (n : Int) := by omega
      obtain ⟨b, off, x, rfl, hb, hx, hc⟩ := HL.out.1.at hlt
      have c0 := hc 0 _ rfl
      have c1 := hc 1 _ rfl
      simp only [Nat.add_zero] at c0
      have hname := fun W => refName_any x.nm W
      have HX := Lib.hid hx
      have hbs : badC x = (!nameB x.nm.data.toList || (x.vl.toList == []) || decide (1024 < x.vl.size)) := by
        unfold badC
        rw [ByteArray.toList_eq]
        congr 2
        cases x.vl.data.toList <;> rfl
      clear hc hx
      obtain ⟨nb, hnb⟩ : ∃ nb, nameB x.nm.data.toList = nb := ⟨_, rfl⟩
      rw [hnb] at hname hbs
      have HN := Lib.hid hname
      clear hname hnb
      have hbad : badC x = true → r = 70 := fun h => by rw [HL.out.2.1, any_at HX.out h]; rfl
      have hgood : badC x = false → Hid ((l.take (k + 1)).any badC = false) := fun h => Lib.hid (any_take_step HX.out HE.out h)
      have HB := Lib.hid (show _ ∧ _ ∧ _ from ⟨hbad, hgood, hbs⟩)
      clear hbad hgood hbs
      cases nb with
      | false =>
        have hr := HB.out.1 (by rw [HB.out.2.2]; rfl)
        subst hr
        go_wp2_with (first | (go_at_call 14; refine (HN.out _).mono ?_; rintro e w' ⟨rfl, rfl⟩) | go_quiet (fail))
        go_ret
        exact ⟨rfl, below_drewN (Below.refl _ _) _⟩
      | true =>
        cases hz : (x.vl.toList == []) with
        | true =>
          have hr := HB.out.1 (by rw [HB.out.2.2, hz]; rfl)
          subst hr
          go_wp2_with (first | (go_at_call 14; refine (HN.out _).mono ?_; rintro e w' ⟨rfl, rfl⟩) | go_quiet (fail))
          go_ret
          exact ⟨rfl, below_drewN (Below.refl _ _) _⟩
        | false =>
          by_cases hv : 1024 < x.vl.size
          · have hv' : (1024 : Int) < (x.vl.size : Int) := by omega
            have hr := HB.out.1 (by rw [HB.out.2.2, hz, decide_eq_true hv]; rfl)
            subst hr
            go_wp2_with (first | (go_at_call 14; refine (HN.out _).mono ?_; rintro e w' ⟨rfl, rfl⟩) | go_quiet (fail))
            go_ret
            exact ⟨rfl, below_drewN (Below.refl _ _) _⟩
          · have hv' : ¬ (1024 : Int) < (x.vl.size : Int) := by omega
            have HG := HB.out.2.1 (by rw [HB.out.2.2, hz, decide_eq_false hv]; rfl)
            go_wp2_with (first | (go_at_call 14; refine (HN.out _).mono ?_; rintro e w' ⟨rfl, rfl⟩) | go_quiet (fail))
            go_roundw
            case measure => simp [intOf]; omega
            case rel => exact ⟨k + 1, _, hlt, by simp, by first | rfl | exact World.drewN_drewN _ _ _, HG⟩
    · obtain rfl : k = n := by omega
      have hany : l.any badC = false := by
        have := HE.out
        rwa [List.take_of_length_le (by have := HL.out.1.1; omega)] at this
      cases ht : twiceN [] l with
      | true =>
        have hr : r = 71 := by rw [HL.out.2.1, hany, ht]; rfl
        subst hr
        have htw := HL.out.2.2 q
        rw [ht] at htw
        have HT := Lib.hid htw
        clear htw ht hany
        go_wp2_with (go_at_call 68; refine HT.out.mono ?_; rintro e w1 ⟨rfl, hb1⟩; have H1 := Lib.hid ((below_drewN (Below.refl w.heap.size w) q).trans hb1); clear hb1)
        go_ret
        exact ⟨rfl, H1.out⟩
      | false =>
        have hr : r = if upB l then 0 else 70 := by rw [HL.out.2.1, hany, ht]; rfl
        have htw := HL.out.2.2 q
        rw [ht] at htw
        have HT := Lib.hid (show _ ∧ _ ∧ _ from ⟨htw, hr, ht⟩)
        clear htw ht hany hr
        go_wp2_with (go_at_call 68; refine HT.out.1.mono ?_; rintro e w1 ⟨rfl, hb1⟩; have H1 := Lib.hid ((below_drewN (Below.refl w.heap.size w) q).trans hb1); clear hb1)
        go_loopw [6] (fun iv wr => ∃ j q' : Nat, (j + 1 ≤ k ∨ j = 0) ∧ iv = .int .i64 ((j : Int) + 1) ∧ wr = w1.drewN q' ∧ Hid (∀ i x y, i < j → l[i]? = some x → l[i + 1]? = some y → ¬ nameC y x < 0)) (fun iv _ => k + 1 - (intOf iv).toNat)
        case atStart => exact ⟨0, 0, .inr rfl, rfl, rfl, Lib.hid fun i x y h => absurd h (by omega)⟩
        case round =>
          obtain ⟨j, q', hj, rfl, rfl, HR⟩ := hrel
          have j0 : (0 : Int) ≤ (j : Int) := by omega
          have j3 : (0 : Int) ≤ (j : Int) + 1 := by omega
          by_cases hjk : j + 1 < k
          · have j1 : (j : Int) + 1 < (k : Int) := by omega
            have j2 : (j : Int) < (k : Int) := by omega
            have j4 : ((j : Int) + 1).toNat = j + 1 := by omega
            obtain ⟨b, off, x, rfl, hb, hx, hc⟩ := HL.out.1.at (show j < k by omega)
            obtain ⟨b', off', y, e', _, hy, hc'⟩ := HL.out.1.at hjk
            obtain ⟨rfl, rfl⟩ : b = b' ∧ off = off' := by simpa using e'
            have c0 := (H1.out.cell (p := ⟨b, off + j * 2 + 0, none⟩) hb).trans (hc 0 _ rfl)
            have d0 := (H1.out.cell (p := ⟨b, off + (j + 1) * 2 + 0, none⟩) hb).trans (hc' 0 _ rfl)
            simp only [Nat.add_zero] at c0 d0
            have HX := Lib.hid (show _ ∧ _ from ⟨hx, hy⟩)
            have hdf := twice_differ HT.out.2.2 hx hy
            clear hc hc' hx hy e'
            rcases nameC_cases x y with ⟨hn, p1, p2⟩ | ⟨hn, p1, p2⟩ | ⟨hn, p1, p2⟩
            · have HG : Hid (∀ i x' y', i < j + 1 → l[i]? = some x' → l[i + 1]? = some y' → ¬ nameC y' x' < 0) := Lib.hid fun i x' y' hi hx' hy' => by
                by_cases e : i < j
                · exact HR.out i x' y' e hx' hy'
                · obtain rfl : i = j := by omega
                  rw [HX.out.1] at hx'
                  rw [HX.out.2] at hy'
                  obtain rfl := Option.some.inj hx'
                  obtain rfl := Option.some.inj hy'
                  have := textC_cmp3.swap x.nm y.nm
                  unfold nameC at hn ⊢
                  omega
              clear hn hdf
              go_wp2_with (go_quiet (fail))
              go_roundw
              case measure => simp [intOf]; omega
              case rel => exact ⟨j + 1, _, .inl (by omega), by simp, by first | rfl | exact World.drewN_drewN _ _ _, HG⟩
            · have hr : r = 70 := by
                rw [HT.out.2.1, upB_false HX.out.1 HX.out.2 (by
                  have := textC_cmp3.swap y.nm x.nm
                  have h2 : textC y.nm x.nm = -1 := by unfold textC; rw [p1, if_pos rfl]
                  unfold nameC
                  omega)]
                rfl
              subst hr
              clear hn hdf
              go_wp2_with (go_quiet (fail))
              go_ret
              exact ⟨rfl, by first | exact below_drewN H1.out _ | exact below_drewN (below_drewN H1.out _) _⟩
            · rw [hdf] at p2
              cases p2
          · have j1 : ¬ (j : Int) + 1 < (k : Int) := by omega
            have hr : r = 0 := by
              rw [HT.out.2.1, upB_true (fun i x y hx hy => by
                have h2 := (List.getElem?_eq_some_iff.1 hy).1
                have := HL.out.1.1
                exact HR.out i x y (by omega) hx hy)]
              rfl
            subst hr
            go_wp2
            go_ret
            exact ⟨rfl, below_drewN H1.out _⟩
end Go.Proofs.YtchggapclmdpaaaGreatDoor
