/- MergeCover: intervals that are put together have just the times that they had, rise, and leave a time between each two. -/
import Derived.Test.YtglafbfbgjihbaaHas
import Derived.Test.YtglafbfbgjihbaaKnown17
namespace Go.Proofs.Ytglafbfbgjihbaa
open Go.RowKit Go.Lib

/-- What the first loop looks at. -/
theorem cover_at {o l : List (Int × Int)} (hA : Apart o) (hC : ∀ t, Cov o t ↔ Cov l t) (hw : ∀ x ∈ l, -9223372036854775808 ≤ x.1 ∧ x.1 ≤ 9223372036854775807 ∧ -9223372036854775808 ≤ x.2 ∧ x.2 ≤ 9223372036854775807) {k : Nat} {x : Int × Int} (hx : o[k]? = some x) :
    x.1 ≤ x.2 ∧ covB l x.1 = true ∧ covB l x.2 = true ∧ -9223372036854775808 ≤ x.1 ∧ x.1 ≤ 9223372036854775807 := by
  have hm := List.mem_of_getElem? hx
  have h1 := hA.1 x hm
  have c1 := (hC x.1).1 ⟨x, hm, Int.le_refl _, h1⟩
  have c2 := (hC x.2).1 ⟨x, hm, h1, Int.le_refl _⟩
  obtain ⟨z, hz, z1, z2⟩ := c1
  have := hw z hz
  exact ⟨h1, (covB_iff _ _).2 ⟨z, hz, z1, z2⟩, (covB_iff _ _).2 c2, by omega, by omega⟩
theorem cover_next {o : List (Int × Int)} (hA : Apart o) {k : Nat} {x y : Int × Int} (hy : o[k]? = some y) (hx : o[k + 1]? = some x) : y.2 + 1 < x.1 := by
  obtain ⟨hk, e1⟩ := List.getElem?_eq_some_iff.1 hx
  obtain ⟨hk', e2⟩ := List.getElem?_eq_some_iff.1 hy
  have := List.pairwise_iff_getElem.1 hA.2 k (k + 1) hk' hk (Nat.lt_succ_self _)
  rw [e1, e2] at this
  exact this
set_option maxHeartbeats 4000000 in
set_option maxRecDepth 100000 in
theorem cover_any (A : Option Addr) (n c : Nat) (l : List (Int × Int)) (t : Int) (w : World) (hL : Lst encI 2 w w.heap.size A n l) (hnil : A = none → n = 0 ∧ c = 0) (hn : n ≤ 3000) (hw : ∀ x ∈ l, -9223372036854775808 ≤ x.1 ∧ x.1 ≤ 9223372036854775807 ∧ -9223372036854775808 ≤ x.2 ∧ x.2 ≤ 9223372036854775807) :
    Calls Try.prog 6 #[.slice A n c, .int .i64 t] w fun e w' => e = .returned (.bool true) ∧ Below w.heap.size w w' := by
  have HL := Lib.hid (show _ ∧ _ from ⟨hL, hw⟩)
  have HV := Lib.hid (ivs_any A n c l w hL hnil (by omega) hw)
  clear hL hnil hw
  have hn' : ¬ (3000 : Int) < (n : Int) := by omega
  go_enter Try.func6, Try.ntmps6
  go_wp2_with fail
  refine HV.out.mono ?_
  rintro e w1 ⟨v, d, rfl, hp, hs, ho, hb⟩
  obtain ⟨h1, h2⟩ := ivs_law hp hs
  obtain ⟨o, heo⟩ : ∃ o, ivMerge d = o := ⟨_, rfl⟩
  rw [heo] at h1 h2 ho
  have hm : o.length ≤ n := by
    have q1 := ivMerge_len d d.length
    rw [List.take_length, heo] at q1
    have q2 := hp.length_eq
    have q3 := List.length_filter_le (fun x : Int × Int => !decide (x.2 < x.1)) l
    have q4 := HL.out.1.1
    omega
  obtain ⟨m, hml⟩ : ∃ m, o.length = m := ⟨_, rfl⟩
  rw [hml] at ho hm
  obtain ⟨Av, cv, rfl, _, hLo⟩ := ownsRow_lst ho hml encI_len
  have hL1 := (HL.out.1.below hb).more hb.size
  have hasO := fun (q : Nat) (t : Int) => has_any Av m cv w1.heap.size o t (w1.drewN q) (hLo.keep fun _ _ => rfl) (by omega)
  have hasL := fun (q : Nat) (t : Int) => has_any A n c w1.heap.size l t (w1.drewN q) (hL1.keep fun _ _ => rfl) (by omega)
  have H := Lib.hid (show _ ∧ _ ∧ _ ∧ _ ∧ _ from ⟨h1, h2, hb, hLo, hL1⟩)
  have HO := Lib.hid hasO
  have HI := Lib.hid hasL
  clear hp hs ho h1 h2 heo hb hLo hL1 hml HV hasO hasL d
  go_wp2
  go_loopw [6] (fun i wr => ∃ k q : Nat, k ≤ m ∧ i = .int .i64 k ∧ wr = w1.drewN q) (fun i _ => m - (intOf i).toNat)
  case atStart => exact ⟨0, 0, Nat.zero_le _, rfl, rfl⟩
  case round =>
    obtain ⟨k, q, hk, rfl, hwr⟩ := hrel
    have HW := Lib.hid hwr
    clear hwr
    by_cases hlt : k < m
    · obtain ⟨b, off, x, rfl, hbb, hx, hc⟩ := H.out.2.2.2.1.at hlt
      have c0 : wr.cell? ⟨b, off + k * 2, none⟩ = some (.int .i64 x.1) := by rw [HW.out]; exact hc 0 _ rfl
      have c1 : wr.cell? ⟨b, off + k * 2 + 1, none⟩ = some (.int .i64 x.2) := by rw [HW.out]; exact hc 1 _ rfl
      obtain ⟨e1, e2, e3, e4, e5⟩ := cover_at H.out.1 H.out.2.1 HL.out.2 hx
      have hh : ∀ t', (t' = x.1 ∨ t' = x.2) → ∀ q', Calls Try.prog 27 #[.slice A n c, .int .i64 t'] (wr.drewN q') fun e w' => e = .returned (.bool true) ∧ w' = wr.drewN q' := by
        intro t' ht q'
        have := HI.out (q + q') t'
        rw [show covB l t' = true by rcases ht with rfl | rfl; exact e2; exact e3, ← World.drewN_drewN, ← HW.out] at this
        exact this
      have i1 : (0 : Int) ≤ (k : Int) := by omega
      have i2 : (k : Int) < (m : Int) := by omega
      have g1 : ¬ x.2 < x.1 := by omega
      have HX := Lib.hid hx
      clear hc hx e2 e3
      cases k with
      | zero =>
        simp only [Nat.zero_mul, Nat.add_zero] at c0 c1
        go_wp2_with (go_quiet (first | (go_at_call 27; refine Calls.quiet_of_same (hh _ (by first | exact .inl rfl | exact .inr rfl) _))))
        go_roundw
        case measure => simp [intOf]; omega
        case rel => exact ⟨1, _, hlt, rfl, (by rw [HW.out]; exact World.drewN_drewN _ _ _)⟩
      | succ kp =>
        obtain ⟨b', off', y, hab, _, hy, hc'⟩ := H.out.2.2.2.1.at (k := kp) (by omega)
        cases hab
        have d1 : wr.cell? ⟨b, off + kp * 2 + 1, none⟩ = some (.int .i64 y.2) := by rw [HW.out]; exact hc' 1 _ rfl
        have hnx := cover_next H.out.1 hy HX.out
        obtain ⟨y1, _, _, y4, _⟩ := cover_at H.out.1 H.out.2.1 HL.out.2 hy
        have j1 : (0 : Int) ≤ (kp : Int) + 1 := by omega
        have j2 : (kp : Int) + 1 < (m : Int) := by omega
        have j3 : (0 : Int) < (kp : Int) + 1 := by omega
        have j4 : (0 : Int) ≤ (kp : Int) := by omega
        have j5 : (kp : Int) < (m : Int) := by omega
        have j6 : ¬ x.1 ≤ y.2 := by omega
        have j7 : (x.1 - 1 == y.2) = false := by rw [beq_eq_false_iff_ne]; omega
        have j8 : decide (x.1 - 1 = y.2) = false := decide_eq_false (by omega)
        have j9 : IntKind.i64.wrap (x.1 - 1) = x.1 - 1 := by rw [IntKind.wrap_i64]; omega
        clear hc' hy i1 i2
        go_wp2_with (go_quiet (first | (go_at_call 27; refine Calls.quiet_of_same (hh _ (by first | exact .inl rfl | exact .inr rfl) _))))
        go_roundw
        case measure => simp [intOf]; omega
        case rel => exact ⟨kp + 2, _, hlt, by simp; omega, (by rw [HW.out]; exact World.drewN_drewN _ _ _)⟩
    · obtain rfl : k = m := by omega
      go_wp2
      go_loopw [7] (fun i wr => ∃ k q : Nat, k ≤ n ∧ i = .int .i64 k ∧ wr = w1.drewN q) (fun i _ => n - (intOf i).toNat)
      case atStart => exact ⟨0, q, Nat.zero_le _, rfl, HW.out⟩
      case round =>
        clear HW q
        obtain ⟨j, q, hj, rfl, hwr⟩ := hrel
        have HW := Lib.hid hwr
        clear hwr
        by_cases hlt2 : j < n
        · obtain ⟨b, off, x, rfl, hbb, hx, hc⟩ := H.out.2.2.2.2.at hlt2
          have c0 : wr.cell? ⟨b, off + j * 2, none⟩ = some (.int .i64 x.1) := by rw [HW.out]; exact hc 0 _ rfl
          have c1 : wr.cell? ⟨b, off + j * 2 + 1, none⟩ = some (.int .i64 x.2) := by rw [HW.out]; exact hc 1 _ rfl
          have i1 : (0 : Int) ≤ (j : Int) := by omega
          have i2 : (j : Int) < (n : Int) := by omega
          have HX := Lib.hid hx
          clear hx hc
          by_cases hle : x.1 ≤ x.2
          · have e2 : covB o x.1 = true := (covB_iff _ _).2 ((H.out.2.1 _).2 ⟨x, List.mem_of_getElem? HX.out, Int.le_refl _, hle⟩)
            have e3 : covB o x.2 = true := (covB_iff _ _).2 ((H.out.2.1 _).2 ⟨x, List.mem_of_getElem? HX.out, hle, Int.le_refl _⟩)
            have hh : ∀ t', (t' = x.1 ∨ t' = x.2) → ∀ q', Calls Try.prog 27 #[.slice Av k cv, .int .i64 t'] (wr.drewN q') fun e w' => e = .returned (.bool true) ∧ w' = wr.drewN q' := by
              intro t' ht q'
              have := HO.out (q + q') t'
              rw [show covB o t' = true by rcases ht with rfl | rfl; exact e2; exact e3, ← World.drewN_drewN, ← HW.out] at this
              exact this
            clear e2 e3
            go_wp2_with (go_quiet (first | (go_at_call 27; refine Calls.quiet_of_same (hh _ (by first | exact .inl rfl | exact .inr rfl) _))))
            go_roundw
            case measure => simp [intOf]; omega
            case rel => exact ⟨j + 1, _, hlt2, by simp, (by rw [HW.out]; exact World.drewN_drewN _ _ _)⟩
          · go_wp2_with (go_quiet (fail))
            go_roundw
            case measure => simp [intOf]; omega
            case rel => exact ⟨j + 1, _, hlt2, by simp, (by rw [HW.out]; exact World.drewN_drewN _ _ _)⟩
        · have hk17 := known17 wr
          have HK := Lib.hid hk17
          clear hk17
          go_wp2_with fail
          refine HK.out.mono ?_
          rintro e w2 ⟨rfl, hb2⟩
          have hb2' : Below w1.heap.size w1 w2 := by rw [HW.out] at hb2; exact (below_drewN (Below.refl _ _) q).trans hb2
          have hLo := (H.out.2.2.2.1.below hb2').more hb2'.size
          have hL2 := (H.out.2.2.2.2.below hb2').more hb2'.size
          have hbl := H.out.2.2.1.trans (hb2'.mono H.out.2.2.1.size)
          have hO := has_any Av k cv w2.heap.size o t w2 hLo (by omega)
          have hI := has_any A n c w2.heap.size l t w2 hL2 (by omega)
          rw [covB_congr H.out.2.1 t] at hO
          have HZ := Lib.hid (show _ ∧ _ ∧ _ from ⟨hO, hI, hbl⟩)
          clear hb2 hb2' hLo hL2 hbl hO hI
          go_wp2_with fail
          refine HZ.out.1.mono ?_
          rintro e w' ⟨rfl, rfl⟩
          go_wp2_with fail
          refine HZ.out.2.1.mono ?_
          rintro e w' ⟨rfl, rfl⟩
          cases covB l t with
          | true =>
            go_wp2
            go_ret
            exact ⟨rfl, HZ.out.2.2⟩
          | false =>
            go_wp2
            go_ret
            exact ⟨rfl, HZ.out.2.2⟩
end Go.Proofs.Ytglafbfbgjihbaa
