/- The document's Cmp, Order. Written by genrefn.py. -/
import Derived.Test.YtajaijidecomdaaGreatDoorG34
namespace Go.Proofs.YtajaijidecomdaaGreatDoor
open Go.RowKit Go.Lib

set_option maxHeartbeats 8000000 in
set_option maxRecDepth 100000 in
theorem rCmp_any (a b : UInt64) (w : World) : Calls Tryz.prog 139 #[.int .u64 a.toNat, .int .u64 b.toNat] w fun e w' => e = .returned (.tuple #[.int .i64 (cmpN a.toNat b.toNat), .bool (cmpOk a.toNat b.toNat)]) ∧ Below w.heap.size w w' := by
  have hcc := fun h1 h2 => FL.cmpC_plc (a := a.toNat) (b := b.toNat) h1 h2
  unfold cmpN cmpOk
  unfold FL.cmpC at hcc
  have hls : FL.lessR (FL.lineX a.toNat b.toNat) (FL.lineY a.toNat b.toNat) = -1 ∨ FL.lessR (FL.lineX a.toNat b.toNat) (FL.lineY a.toNat b.toNat) = 0 ∨ FL.lessR (FL.lineX a.toNat b.toNat) (FL.lineY a.toNat b.toNat) = 1 := by unfold FL.lessR; split; exact .inl rfl; split; exact .inr (.inr rfl); exact .inr (.inl rfl)
  have hline := line_any a b w
  have hless := fun (A A' : Option Addr) (n n' c c' : Nat) (w : World) h1 h2 h3 h4 => less_any A A' n c n' c' (FL.lineX a.toNat b.toNat) (FL.lineY a.toNat b.toNat) w h1 h2 h3 h4
  unfold LinePost at hline
  generalize FL.lineX a.toNat b.toNat = X at hcc hls hline hless
  generalize FL.lineY a.toNat b.toNat = Y at hcc hls hline hless
  generalize FL.lessR X Y = L at hcc hls hless
  generalize FL.cmpI (FL.plc a.toNat) (FL.plc b.toNat) = R at hcc ⊢
  generalize min (FL.openE a.toNat) (FL.openE b.toNat) = l at hline
  have hna := fun w => isNaN_u a w
  have hnb := fun w => isNaN_u b w
  have hza := fun w => nought_u a w
  have hzb := fun w => nought_u b w
  have hsa := fun w => neg0_u a w
  have hsb := fun w => neg0_u b w
  have hia := fun w => isInf_u a w
  have hib := fun w => isInf_u b w
  generalize FL.isNaN a.toNat = na at hna hcc ⊢
  generalize FL.isNaN b.toNat = nb at hnb hcc ⊢
  generalize FL.nought a.toNat = za at hza hcc
  generalize FL.nought b.toNat = zb at hzb hcc
  generalize FL.neg0 a.toNat = sa at hsa hcc
  generalize FL.neg0 b.toNat = sb at hsb hcc
  generalize FL.isInf a.toNat = ia at hia hcc
  generalize FL.isInf b.toNat = ib at hib hcc
  generalize a.toNat = an at hna hza hsa hia hline ⊢
  generalize b.toNat = bn at hnb hzb hsb hib hline ⊢
  have HC := Lib.hid (show _ ∧ _ ∧ _ from ⟨hcc, hline, hless⟩)
  have HLS := Lib.hid hls
  clear hcc hline hless hls
  go_enter Tryz.func139, Tryz.ntmps139
  go_upto_region 1 with (fail)
  go_cut [15] from 10 (fun sx wc => sx = .bool (na || nb) ∧ wc = w)
  case first =>
    cases na <;> cases nb
    all_goals
      go_wp2_with (first | (go_at_call 120; ((with_reducible refine (hna _).mono ?_); rintro e w' ⟨rfl, hw⟩; rw [hw]; clear hw w')) | (go_at_call 120; ((with_reducible refine (hnb _).mono ?_); rintro e w' ⟨rfl, hw⟩; rw [hw]; clear hw w')))
      go_meet
      case rel => exact ⟨rfl, rfl⟩
  case rest =>
    obtain ⟨rfl, hwc⟩ := hcut
    obtain rfl := hwc.symm
    clear hwc
    cases hn : (na || nb) with
    | true =>
      go_wp2_with fail
      exact bodyPost_ret (v := .tuple #[.int .i64 0, .bool false]) (by simp [results, Tryz.results139, go_sem]) rfl ⟨by simp [hn], Below.refl _ _⟩
    | false =>
      obtain ⟨rfl, rfl⟩ := Bool.or_eq_false_iff.1 hn
      have hcc := HC.out.1 rfl rfl
      clear hn
      go_upto_region 3 with (fail)
      go_cut [21] from 10 (fun sx wc => sx = .bool (za && zb) ∧ wc = w)
      case first =>
        cases za <;> cases zb
        all_goals
          go_wp2_with (first | (go_at_call 128; ((with_reducible refine (hza _).mono ?_); rintro e w' ⟨rfl, hw⟩; rw [hw]; clear hw w')) | (go_at_call 128; ((with_reducible refine (hzb _).mono ?_); rintro e w' ⟨rfl, hw⟩; rw [hw]; clear hw w')))
          go_meet
          case rel => exact ⟨rfl, rfl⟩
      case rest =>
        obtain ⟨rfl, hwc⟩ := hcut
        obtain rfl := hwc.symm
        clear hwc
        cases hz : (za && zb) with
        | true =>
          rw [hz, if_pos rfl] at hcc
          have HR := Lib.hid hcc
          clear hcc
          go_wp2_with fail
          exact bodyPost_ret (v := .tuple #[.int .i64 0, .bool true]) (by simp [results, Tryz.results139, go_sem]) rfl ⟨by first | (rw [HR.out]; done) | (rw [HR.out]; rfl), Below.refl _ _⟩
        | false =>
          rw [hz, if_neg (by decide)] at hcc
          have HZ := Lib.hid hz
          clear hz hza hzb
          cases sa <;> cases sb
          case true.false =>
            have HR := Lib.hid hcc
            clear hcc
            go_wp2_with (first | (go_at_call 123; ((with_reducible refine (hsa _).mono ?_); rintro e w' ⟨rfl, hw⟩; rw [hw]; clear hw w')) | (go_at_call 123; ((with_reducible refine (hsb _).mono ?_); rintro e w' ⟨rfl, hw⟩; rw [hw]; clear hw w')))
            exact bodyPost_ret (v := .tuple #[.int .i64 (-1), .bool true]) (by simp [results, Tryz.results139, go_sem]) rfl ⟨by first | (rw [← HR.out]; done) | (rw [← HR.out]; rfl), Below.refl _ _⟩
          case false.true =>
            have HR := Lib.hid hcc
            clear hcc
            go_wp2_with (first | (go_at_call 123; ((with_reducible refine (hsa _).mono ?_); rintro e w' ⟨rfl, hw⟩; rw [hw]; clear hw w')) | (go_at_call 123; ((with_reducible refine (hsb _).mono ?_); rintro e w' ⟨rfl, hw⟩; rw [hw]; clear hw w')))
            exact bodyPost_ret (v := .tuple #[.int .i64 1, .bool true]) (by simp [results, Tryz.results139, go_sem]) rfl ⟨by first | (rw [← HR.out]; done) | (rw [← HR.out]; rfl), Below.refl _ _⟩
          all_goals
            rw [if_neg (by decide)] at hcc
            cases ia <;> cases ib
            case false.false =>
              have HR := Lib.hid hcc
              clear hcc
              go_wp2_with (first | (go_at_call 123; ((with_reducible refine (hsa _).mono ?_); rintro e w' ⟨rfl, hw⟩; rw [hw]; clear hw w')) | (go_at_call 123; ((with_reducible refine (hsb _).mono ?_); rintro e w' ⟨rfl, hw⟩; rw [hw]; clear hw w')) | (go_at_call 121; ((with_reducible refine (hia _).mono ?_); rintro e w' ⟨rfl, hw⟩; rw [hw]; clear hw w')) | (go_at_call 121; ((with_reducible refine (hib _).mono ?_); rintro e w' ⟨rfl, hw⟩; rw [hw]; clear hw w')))
              refine HC.out.2.1.mono ?_
              rintro e w1 ⟨A1, n1, c1, A2, n2, c2, rfl, hl1, hl2, k1, k2, hb1⟩
              have H1 := Lib.hid (show _ ∧ _ from ⟨HC.out.2.2 A1 A2 n1 n2 c1 c2 w1 hl1 hl2 (by omega) (by omega), hb1⟩)
              clear hl1 hl2 hb1
              go_wp2_with fail
              refine H1.out.1.mono ?_
              rintro e w2 ⟨rfl, hb2⟩
              have H2 := Lib.hid (H1.out.2.trans (hb2.mono H1.out.2.size))
              clear hb2
              rcases HLS.out with rfl | rfl | rfl
              all_goals
                go_wp2_with (first | (go_at_call 123; ((with_reducible refine (hsa _).mono ?_); rintro e w' ⟨rfl, hw⟩; rw [hw]; clear hw w')) | (go_at_call 123; ((with_reducible refine (hsb _).mono ?_); rintro e w' ⟨rfl, hw⟩; rw [hw]; clear hw w')))
                exact bodyPost_ret (v := .tuple #[.int .i64 R, .bool true]) (by simp [results, Tryz.results139, go_sem, ← HR.out]) rfl ⟨rfl, H2.out⟩
            all_goals
              have HR := Lib.hid hcc
              clear hcc
              go_wp2_with (first | (go_at_call 123; ((with_reducible refine (hsa _).mono ?_); rintro e w' ⟨rfl, hw⟩; rw [hw]; clear hw w')) | (go_at_call 123; ((with_reducible refine (hsb _).mono ?_); rintro e w' ⟨rfl, hw⟩; rw [hw]; clear hw w')) | (go_at_call 121; ((with_reducible refine (hia _).mono ?_); rintro e w' ⟨rfl, hw⟩; rw [hw]; clear hw w')) | (go_at_call 121; ((with_reducible refine (hib _).mono ?_); rintro e w' ⟨rfl, hw⟩; rw [hw]; clear hw w')))
              exact bodyPost_ret (v := .tuple #[.int .i64 R, .bool true]) (by simp [results, Tryz.results139, go_sem, ← HR.out]) rfl ⟨rfl, Below.refl _ _⟩
set_option maxHeartbeats 8000000 in
set_option maxRecDepth 100000 in
theorem rOrder_any (a b : UInt64) (w : World) : Calls Tryz.prog 169 #[.int .u64 a.toNat, .int .u64 b.toNat] w fun e w' => e = .returned (.int .i64 (FL.orderP a.toNat b.toNat)) ∧ Below w.heap.size w w' := by
  have hr := FL.orderR_eq a.toNat_lt b.toNat_lt
  have hcc := fun h1 h2 => FL.cmpC_plc (a := a.toNat) (b := b.toNat) h1 h2
  unfold FL.orderR at hr
  have hcmp := rCmp_any a b w
  unfold cmpN cmpOk at hcmp
  have hna := fun w => isNaN_u a w
  have hnb := fun w => isNaN_u b w
  have hsa := fun w => neg0_u a w
  generalize FL.cmpI (FL.plc a.toNat) (FL.plc b.toNat) = C at hcc hcmp
  generalize FL.cmpC a.toNat b.toNat = C' at hr hcc
  generalize FL.orderP a.toNat b.toNat = R at hr ⊢
  generalize FL.isNaN a.toNat = na at hna hr hcmp hcc
  generalize FL.isNaN b.toNat = nb at hnb hr hcmp hcc
  generalize FL.neg0 a.toNat = sa at hsa hr
  generalize a.toNat = an at hna hsa hcmp hr ⊢
  generalize b.toNat = bn at hnb hcmp hr ⊢
  cases na <;> cases nb
  case false.false =>
    obtain rfl : C' = C := hcc rfl rfl
    rw [if_neg (by decide)] at hr
    by_cases h0 : C' = 0 ∧ an ≠ bn
    · obtain ⟨rfl, hne⟩ := h0
      rw [if_pos ⟨rfl, hne⟩] at hr
      have d1 : ((an : Int) == (bn : Int)) = false := beq_eq_false_iff_ne.2 (by omega)
      have d2 : ((an : Int) != (bn : Int)) = true := by rw [bne, d1]; rfl
      have HR := Lib.hid (show _ ∧ _ from ⟨hr, hcmp⟩)
      clear hr hcmp hcc hne
      cases sa
      all_goals
        go_enter Tryz.func169, Tryz.ntmps169
        go_wp2_with (first | (go_at_call 120; ((with_reducible refine (hna _).mono ?_); rintro e w' ⟨rfl, hw⟩; rw [hw]; clear hw w')) | (go_at_call 120; ((with_reducible refine (hnb _).mono ?_); rintro e w' ⟨rfl, hw⟩; rw [hw]; clear hw w')))
        refine HR.out.2.mono ?_
        rintro e w1 ⟨rfl, hb1⟩
        have H1 := Lib.hid hb1
        clear hb1
        go_wp2_with (first | (go_at_call 123; ((with_reducible refine (hsa _).mono ?_); rintro e w' ⟨rfl, hw⟩; rw [hw]; clear hw w')))
        go_ret
        exact ⟨by rw [← HR.out.1]; rfl, H1.out⟩
    · rw [if_neg h0] at hr
      subst hr
      have HR := Lib.hid hcmp
      by_cases hz : C' = 0
      · subst hz
        obtain rfl : an = bn := by
          by_cases h : an = bn
          · exact h
          · exact absurd ⟨rfl, h⟩ h0
        clear hcmp hcc h0
        go_enter Tryz.func169, Tryz.ntmps169
        go_wp2_with (first | (go_at_call 120; ((with_reducible refine (hna _).mono ?_); rintro e w' ⟨rfl, hw⟩; rw [hw]; clear hw w')) | (go_at_call 120; ((with_reducible refine (hnb _).mono ?_); rintro e w' ⟨rfl, hw⟩; rw [hw]; clear hw w')))
        refine HR.out.mono ?_
        rintro e w1 ⟨rfl, hb1⟩
        have H1 := Lib.hid hb1
        clear hb1
        go_wp2
        go_ret
        exact ⟨rfl, H1.out⟩
      · have d1 : (C' == 0) = false := beq_eq_false_iff_ne.2 hz
        clear hcmp hcc h0
        go_enter Tryz.func169, Tryz.ntmps169
        go_wp2_with (first | (go_at_call 120; ((with_reducible refine (hna _).mono ?_); rintro e w' ⟨rfl, hw⟩; rw [hw]; clear hw w')) | (go_at_call 120; ((with_reducible refine (hnb _).mono ?_); rintro e w' ⟨rfl, hw⟩; rw [hw]; clear hw w')))
        refine HR.out.mono ?_
        rintro e w1 ⟨rfl, hb1⟩
        have H1 := Lib.hid hb1
        clear hb1
        go_wp2
        go_ret
        exact ⟨rfl, H1.out⟩
  case true.true =>
    clear hcmp hcc
    rcases Nat.lt_trichotomy an bn with h | h | h
    · have i1 : (an : Int) < (bn : Int) := by omega
      have d : decide (an < bn) = true := decide_eq_true h
      rw [d] at hr
      have HR := Lib.hid hr
      clear hr d h
      go_enter Tryz.func169, Tryz.ntmps169
      go_wp2_with (first | (go_at_call 120; ((with_reducible refine (hna _).mono ?_); rintro e w' ⟨rfl, hw⟩; rw [hw]; clear hw w')) | (go_at_call 120; ((with_reducible refine (hnb _).mono ?_); rintro e w' ⟨rfl, hw⟩; rw [hw]; clear hw w')))
      go_ret
      exact ⟨by rw [← HR.out]; rfl, Below.refl _ _⟩
    · subst h
      have d : decide (an < an) = false := decide_eq_false (by omega)
      rw [d] at hr
      have HR := Lib.hid hr
      clear hr d
      go_enter Tryz.func169, Tryz.ntmps169
      go_wp2_with (first | (go_at_call 120; ((with_reducible refine (hna _).mono ?_); rintro e w' ⟨rfl, hw⟩; rw [hw]; clear hw w')) | (go_at_call 120; ((with_reducible refine (hnb _).mono ?_); rintro e w' ⟨rfl, hw⟩; rw [hw]; clear hw w')))
      go_ret
      exact ⟨by rw [← HR.out]; rfl, Below.refl _ _⟩
    · have i1 : (bn : Int) < (an : Int) := by omega
      have i2 : ¬ (an : Int) < (bn : Int) := by omega
      have d : decide (an < bn) = false := decide_eq_false (by omega)
      have d2 : decide (bn < an) = true := decide_eq_true h
      rw [d, d2] at hr
      have HR := Lib.hid hr
      clear hr d d2 h
      go_enter Tryz.func169, Tryz.ntmps169
      go_wp2_with (first | (go_at_call 120; ((with_reducible refine (hna _).mono ?_); rintro e w' ⟨rfl, hw⟩; rw [hw]; clear hw w')) | (go_at_call 120; ((with_reducible refine (hnb _).mono ?_); rintro e w' ⟨rfl, hw⟩; rw [hw]; clear hw w')))
      go_ret
      exact ⟨by rw [← HR.out]; rfl, Below.refl _ _⟩
  all_goals
    have HR := Lib.hid hr
    clear hr hcmp hcc
    go_enter Tryz.func169, Tryz.ntmps169
    go_wp2_with (first | (go_at_call 120; ((with_reducible refine (hna _).mono ?_); rintro e w' ⟨rfl, hw⟩; rw [hw]; clear hw w')) | (go_at_call 120; ((with_reducible refine (hnb _).mono ?_); rintro e w' ⟨rfl, hw⟩; rw [hw]; clear hw w')))
    go_ret
    exact ⟨by rw [← HR.out]; simp, Below.refl _ _⟩
end Go.Proofs.YtajaijidecomdaaGreatDoor
