/- The document's Set: of labels in any order. -/
import Derived.Test.YtchggapclmdpaaaGreatDoorGf
import Derived.Test.YtchggapclmdpaaaGreatDoorRefInto
namespace Go.Proofs.YtchggapclmdpaaaGreatDoor
open Go.RowKit Go.Lib

theorem any_take_step {f : Lb → Bool} {l : List Lb} {k : Nat} {x : Lb} (hx : l[k]? = some x) (h : (l.take k).any f = false) (hf : f x = false) : (l.take (k + 1)).any f = false := by
  obtain ⟨g1, g2⟩ := List.getElem?_eq_some_iff.1 hx
  rw [List.take_succ_eq_append_getElem g1, g2, List.any_append, h]
  simp [hf]
theorem any_at {f : Lb → Bool} {l : List Lb} {k : Nat} {x : Lb} (hx : l[k]? = some x) (hf : f x = true) : l.any f = true := List.any_eq_true.2 ⟨x, List.mem_of_getElem? hx, hf⟩
/-- The set, as far as place k. -/
def setTo (l : List Lb) (k : Nat) : List Lb := ((l.take k).filter fullV).foldl intoL []
theorem setTo_full {l : List Lb} {k : Nat} {x : Lb} (hx : l[k]? = some x) (h : fullV x = true) : setTo l (k + 1) = intoL (setTo l k) x := by
  obtain ⟨g1, g2⟩ := List.getElem?_eq_some_iff.1 hx
  unfold setTo
  rw [List.take_succ_eq_append_getElem g1, g2, List.filter_append, List.foldl_append]
  simp [h]
theorem setTo_empty {l : List Lb} {k : Nat} {x : Lb} (hx : l[k]? = some x) (h : fullV x = false) : setTo l (k + 1) = setTo l k := by
  obtain ⟨g1, g2⟩ := List.getElem?_eq_some_iff.1 hx
  unfold setTo
  rw [List.take_succ_eq_append_getElem g1, g2, List.filter_append, List.foldl_append]
  simp [h]
theorem setTo_length (l : List Lb) : ∀ k, (setTo l k).length ≤ k
  | 0 => by simp [setTo]
  | k + 1 => by
    have ih := setTo_length l k
    cases hx : l[k]? with
    | none =>
      have hl : l.length ≤ k := by simpa using hx
      have : setTo l (k + 1) = setTo l k := by unfold setTo; rw [List.take_of_length_le hl, List.take_of_length_le (by omega)]
      rw [this]; omega
    | some x =>
      cases hf : fullV x with
      | true => rw [setTo_full hx hf, intoL_length]; omega
      | false => rw [setTo_empty hx hf]; omega
theorem setTo_end (l : List Lb) : setTo l l.length = setL l := by unfold setTo setL; rw [List.take_length]
theorem setL_length (l : List Lb) : (setL l).length = (l.filter fullV).length := by
  have := (foldl_into (l.filter fullV) [] List.Pairwise.nil).1.length_eq
  simpa [setL] using this
/-- An owned row as an argument. -/
theorem own_arg {w : World} {B n : Nat} {v : Value} {l : List Lb} (h : w.ownsRow B 94 2 v n (l.flatMap Lb.cells)) (hl : l.length = n) : ∃ A c, v = .slice A n c ∧ Lst Lb.cells 2 w w.heap.size A n l ∧ (A = none → n = 0 ∧ c = 0) ∧ n ≤ c ∧ c ≤ maxLen := by
  obtain ⟨A, c, rfl, _, hL⟩ := ownsRow_lst h hl Lb.len
  have hc := owns_cap h
  refine ⟨A, c, rfl, hL, fun ha => ?_, hc.2, hc.1⟩
  rcases h.2 with ⟨e, h0⟩ | ⟨g, cap, cur, e, _⟩
  · injection e with _ e2 e3
    exact ⟨e2, e3⟩
  · injection e with e1 _ _
    rw [ha] at e1
    cases e1
set_option maxHeartbeats 4000000 in
set_option maxRecDepth 100000 in
theorem refSet_any (A : Option Addr) (n c : Nat) (l : List Lb) (w : World) (hL : Lst Lb.cells 2 w w.heap.size A n l) (hbig : n ≤ 100000) :
    Calls Tryz.prog 24 #[.slice A n c] w (SetPost l w) := by
  obtain ⟨r, hr⟩ : ∃ r, setE l = r := ⟨_, rfl⟩
  unfold SetPost
  rw [hr]
  have htw := fun q => refTwice_any A n c l (w.drewN q) (hL.keep fun _ _ => rfl) (by omega)
  have HL := Lib.hid (show _ ∧ _ ∧ _ from ⟨hL, hr, htw⟩)
  clear hL hr htw
  go_enter Tryz.func24, Tryz.ntmps24
  go_wp2
  go_loopw [4] (fun iv wr => ∃ k q : Nat, k ≤ n ∧ iv = .int .i64 k ∧ wr = w.drewN q ∧ Hid ((l.take k).any badS = false)) (fun iv _ => n - (intOf iv).toNat)
  case atStart => exact ⟨0, 0, Nat.zero_le _, rfl, rfl, Lib.hid rfl⟩
  case round =>
    obtain ⟨k, q, hk, rfl, rfl, HE⟩ := hrel
    have i0 : (0 : Int) ≤ (k : Int) := by omega
    by_cases hlt : k < n
    · have i1 : (k : Int) < (n : Int) := by omega
      obtain ⟨b, off, x, rfl, hb, hx, hc⟩ := HL.out.1.at hlt
      have c0 := hc 0 _ rfl
      have c1 := hc 1 _ rfl
      simp only [Nat.add_zero] at c0
      have hname := fun W => refName_any x.nm W
      have HX := Lib.hid hx
      have hbs : badS x = (!nameB x.nm.data.toList || decide (1024 < x.vl.size)) := rfl
      clear hc hx
      obtain ⟨nb, hnb⟩ : ∃ nb, nameB x.nm.data.toList = nb := ⟨_, rfl⟩
      rw [hnb] at hname hbs
      have HN := Lib.hid hname
      clear hname hnb
      have hbad : badS x = true → r = 70 := fun h => by
        rw [← HL.out.2.1]
        unfold setE
        rw [any_at HX.out h]
        rfl
      have hgood : badS x = false → Hid ((l.take (k + 1)).any badS = false) := fun h => Lib.hid (any_take_step HX.out HE.out h)
      have HB := Lib.hid (show _ ∧ _ ∧ _ from ⟨hbad, hgood, hbs⟩)
      clear hbad hgood hbs
      cases nb with
      | false =>
        have hr := HB.out.1 (by rw [HB.out.2.2]; rfl)
        subst hr
        go_wp2_with (first | (go_at_call 14; refine (HN.out _).mono ?_; rintro e w' ⟨rfl, rfl⟩) | go_quiet (fail))
        exact bodyPost_ret (v := .tuple #[.slice none 0 0, .int .u16 70]) (by simp [results, Tryz.results24, go_sem]) rfl ⟨.slice none 0 0, rfl, below_drewN (Below.refl _ _) _, fun _ => rfl, fun h => absurd h (by decide)⟩
      | true =>
        by_cases hv : 1024 < x.vl.size
        · have hv' : (1024 : Int) < (x.vl.size : Int) := by omega
          have hr := HB.out.1 (by rw [HB.out.2.2, decide_eq_true hv]; rfl)
          subst hr
          go_wp2_with (first | (go_at_call 14; refine (HN.out _).mono ?_; rintro e w' ⟨rfl, rfl⟩) | go_quiet (fail))
          exact bodyPost_ret (v := .tuple #[.slice none 0 0, .int .u16 70]) (by simp [results, Tryz.results24, go_sem]) rfl ⟨.slice none 0 0, rfl, below_drewN (Below.refl _ _) _, fun _ => rfl, fun h => absurd h (by decide)⟩
        · have hv' : ¬ (1024 : Int) < (x.vl.size : Int) := by omega
          have HG := HB.out.2.1 (by rw [HB.out.2.2, decide_eq_false hv]; rfl)
          go_wp2_with (first | (go_at_call 14; refine (HN.out _).mono ?_; rintro e w' ⟨rfl, rfl⟩) | go_quiet (fail))
          go_roundw
          case measure => simp [intOf]; omega
          case rel => exact ⟨k + 1, _, hlt, by simp, by first | rfl | exact World.drewN_drewN _ _ _, HG⟩
    · obtain rfl : k = n := by omega
      have hany : l.any badS = false := by
        have := HE.out
        rwa [List.take_of_length_le (by have := HL.out.1.1; omega)] at this
      have hq1 : ¬ (100000 : Int) < (k : Int) := by omega
      cases ht : twiceN [] l with
      | true =>
        have hr : r = 71 := by rw [← HL.out.2.1]; unfold setE; rw [hany, ht]; rfl
        subst hr
        have htw := HL.out.2.2 q
        rw [ht] at htw
        have HT := Lib.hid htw
        clear htw ht hany
        go_wp2_with (go_at_call 68; refine HT.out.mono ?_; rintro e w1 ⟨rfl, hb1⟩; have H1 := Lib.hid ((below_drewN (Below.refl w.heap.size w) q).trans hb1); clear hb1)
        exact bodyPost_ret (v := .tuple #[.slice none 0 0, .int .u16 71]) (by simp [results, Tryz.results24, go_sem]) rfl ⟨.slice none 0 0, rfl, H1.out, fun _ => rfl, fun h => absurd h (by decide)⟩
      | false =>
        have hr : r = if 64 < (setL l).length then 72 else 0 := by rw [← HL.out.2.1]; unfold setE; rw [hany, ht, setL_length]; rfl
        have htw := HL.out.2.2 q
        rw [ht] at htw
        have HT := Lib.hid (show _ ∧ _ from ⟨htw, hr⟩)
        clear htw ht hany hr
        go_wp2_with (go_at_call 68; refine HT.out.1.mono ?_; rintro e w1 ⟨rfl, hb1⟩; have H1 := Lib.hid ((below_drewN (Below.refl w.heap.size w) q).trans hb1); clear hb1)
        go_loopw [7, 8] (fun v iv wr => ∃ j : Nat, j ≤ k ∧ iv = .int .i64 j ∧ Hid (wr.ownsRow w.heap.size 94 2 v (setTo l j).length ((setTo l j).flatMap Lb.cells) ∧ Below w.heap.size w wr)) (fun _ iv _ => k - (intOf iv).toNat)
        case atStart => exact ⟨0, Nat.zero_le _, rfl, Lib.hid ⟨World.ownsRow_nil _ _ _ _, H1.out⟩⟩
        case round =>
          obtain ⟨j, hj, rfl, HR⟩ := hrel
          have j0 : (0 : Int) ≤ (j : Int) := by omega
          by_cases hjk : j < k
          · have j1 : (j : Int) < (k : Int) := by omega
            obtain ⟨b, off, x, rfl, hb, hx, hc⟩ := HL.out.1.at hjk
            have c0 := (HR.out.2.cell (p := ⟨b, off + j * 2 + 0, none⟩) hb).trans (hc 0 _ rfl)
            have c1 := (HR.out.2.cell (p := ⟨b, off + j * 2 + 1, none⟩) hb).trans (hc 1 _ rfl)
            simp only [Nat.add_zero] at c0
            have hfx : fullV x = !(x.vl.toList == []) := by
              unfold fullV
              rw [ByteArray.toList_eq]
              cases x.vl.data.toList <;> rfl
            have hfull : fullV x = true → setTo l (j + 1) = intoL (setTo l j) x := setTo_full hx
            have hempty : fullV x = false → setTo l (j + 1) = setTo l j := setTo_empty hx
            have HX := Lib.hid (show _ ∧ _ ∧ _ from ⟨hfx, hfull, hempty⟩)
            have hle := setTo_length l j
            clear hc hx hfx hfull hempty
            cases he : (x.vl.toList == []) with
            | true =>
              have hs := HX.out.2.2 (by rw [HX.out.1, he]; rfl)
              have HG : Hid (wr.ownsRow w.heap.size 94 2 u7 (setTo l (j + 1)).length ((setTo l (j + 1)).flatMap Lb.cells) ∧ Below w.heap.size w wr) := by rw [hs]; exact HR
              clear hs hle
              go_wp2_with (go_quiet (fail))
              go_roundw
              case measure => simp [intOf]; omega
              case rel => exact ⟨j + 1, hjk, by simp, by first | exact HG | exact Lib.hid ⟨HG.out.1, below_drewN HG.out.2 _⟩⟩
            | false =>
              have hs := HX.out.2.1 (by rw [HX.out.1, he]; rfl)
              obtain ⟨A7, c7, rfl, hL7, hn7, hnc7, hc7⟩ := own_arg HR.out.1 rfl
              have hinto := refInto_any A7 (setTo l j).length c7 (setTo l j) x wr hL7 hn7 hnc7 hc7 (by omega)
              have HI := Lib.hid (show _ ∧ _ from ⟨hinto, hs⟩)
              clear hs hinto hL7 hn7 hnc7 hc7 hle
              go_wp2_with (first | (go_at_call 69; refine HI.out.1.mono ?_; rintro e w2 ⟨v2, rfl, ho2, hb2⟩; have H2 := Lib.hid (show w2.ownsRow w.heap.size 94 2 v2 (setTo l (j + 1)).length ((setTo l (j + 1)).flatMap Lb.cells) ∧ Below w.heap.size w w2 from ⟨by (rw [HI.out.2, intoL_length]; exact owns_base ho2 HR.out.2.size), HR.out.2.trans (hb2.mono HR.out.2.size)⟩); clear ho2 hb2) | go_quiet (fail))
              go_roundw
              case measure => simp [intOf]; omega
              case rel => exact ⟨j + 1, hjk, by simp, H2⟩
          · obtain rfl : j = k := by omega
            have hend : setTo l j = setL l := by have := HL.out.1.1; rw [← this]; exact setTo_end l
            have hR := HR.out
            rw [hend] at hR
            obtain ⟨A7, c7, rfl, _, _⟩ := own_arg hR.1 rfl
            obtain ⟨m, hm⟩ : ∃ m, (setL l).length = m := ⟨_, rfl⟩
            have hm2 : (setTo l j).length = m := by rw [hend, hm]
            have hr := HT.out.2
            rw [hm] at hr hR
            rw [hm]
            have HF := Lib.hid (show _ ∧ _ from ⟨hR, hm⟩)
            clear hend hR hm hm2 HR HT HL H1
            by_cases h64 : 64 < m
            · rw [if_pos h64] at hr
              subst hr
              have h64' : (64 : Int) < (m : Int) := by omega
              go_wp2
              exact bodyPost_ret (v := .tuple #[.slice none 0 0, .int .u16 72]) (by simp [results, Tryz.results24, go_sem]) rfl (by first | exact ⟨rfl, HF.out.1.2⟩ | exact ⟨.slice none 0 0, rfl, HF.out.1.2, fun _ => rfl, fun h => absurd h (by decide)⟩)
            · rw [if_neg h64] at hr
              subst hr
              have h64' : ¬ (64 : Int) < (m : Int) := by omega
              go_wp2
              exact bodyPost_ret (v := .tuple #[.slice A7 m c7, .int .u16 0]) (by simp [results, Tryz.results24, go_sem]) rfl ⟨.slice A7 m c7, rfl, HF.out.1.2, by rw [HF.out.2]; exact HF.out.1.1⟩
end Go.Proofs.YtchggapclmdpaaaGreatDoor
