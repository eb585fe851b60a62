/- The document's Round. Written by genround.py. -/
import Derived.Test.YtajaijidecomdaaGreatDoorNtG
import Derived.Deep.Cut
import Derived.Deep.DeepCutAuto
namespace Go.Proofs.YtajaijidecomdaaGreatDoor
open Go.RowKit Go.Lib

/-- A number in memory, at the cut. -/
def NatHas (w wc : World) (v : Value) (N : Nat) : Prop := ∃ A n c, v = .slice A n c ∧ Lst encD 1 wc wc.heap.size A n (FL.digs N) ∧ Below w.heap.size w wc
theorem NatHas.of {w wc : World} {A : Option Addr} {n c N : Nat} (h1 : Lst encD 1 wc wc.heap.size A n (FL.digs N)) (h2 : Below w.heap.size w wc) : NatHas w wc (.slice A n c) N := ⟨A, n, c, rfl, h1, h2⟩
theorem or_out (o x : Nat) (ho : o = 0 ∨ o = 2 ^ 63) (hx : x < 2 ^ 63) : bits .or .u64 (o : Int) (x : Int) = ((o + x : Nat) : Int) := by
  rw [or64 o x (by omega) (by omega)]
  rcases ho with rfl | rfl
  · rw [Nat.zero_or, Nat.zero_add]
  · rw [show (2 : Nat) ^ 63 = 2 ^ 63 * 1 by rfl, ← Nat.two_pow_add_eq_or_of_lt hx 1]
theorem or_low (E x : Nat) (hE : E < 2 ^ 11) (hx : x < 2 ^ 52) (o : Nat) (ho : o = 0 ∨ o = 2 ^ 63) : bits .or .u64 ((o + E * 2 ^ 52 : Nat) : Int) (x : Int) = ((o + E * 2 ^ 52 + x : Nat) : Int) := by
  rw [or64 _ x (by omega) (by omega)]
  have h1 : o + E * 2 ^ 52 = 2 ^ 52 * (o / 2 ^ 52 + E) := by rcases ho with rfl | rfl <;> omega
  rw [h1, ← Nat.two_pow_add_eq_or_of_lt hx]
/-- The document's rounding in steps: the place, the quotient, whether it goes up. -/
def rS (N : Nat) (e : Int) : Int := max ((FL.bitsN N : Int) - 53) (-1074 - e)
def rQ (N : Nat) (s : Int) : Nat := if 0 < s then N / 2 ^ s.toNat else N * 2 ^ (-s).toNat
def rUp (N : Nat) (s : Int) (more : Bool) : Bool := decide (0 < s) && (N / 2 ^ (s.toNat - 1) % 2 == 1) && ((decide (1 < s) && (N % 2 ^ (s.toNat - 1) != 0)) || more || (rQ N s % 2 == 1))
theorem roundR_steps (neg : Bool) (N : Nat) (e : Int) (more : Bool) (h0 : N ≠ 0) {s : Int} (hs : rS N e = s) {q q2 : Nat} {e2 : Int} (hq : rQ N s + (rUp N s more).toNat = q) (hq2 : (if 53 < FL.bitsN q then q / 2 else q) = q2) (he2 : (if 53 < FL.bitsN q then e + s + 1 else e + s) = e2) :
    FL.roundR neg N e more = if q2 < 2 ^ 52 then (if neg then 2 ^ 63 else 0) + q2 else if 2047 ≤ e2 + 1075 then (if neg then 2 ^ 63 else 0) + 2047 * 2 ^ 52 else (if neg then 2 ^ 63 else 0) + (e2 + 1075).toNat * 2 ^ 52 + (q2 - 2 ^ 52) := by
  subst hs hq hq2 he2
  unfold FL.roundR
  rw [if_neg h0]
  rfl
theorem rQ_lt (N : Nat) (e : Int) : rQ N (rS N e) < 2 ^ 53 := by
  have h := FL.bitsN_lt N
  unfold rQ
  split
  · rename_i hs
    rw [Nat.div_lt_iff_lt_mul (Nat.pow_pos (by omega)), ← Nat.pow_add]
    refine Nat.lt_of_lt_of_le h (Nat.pow_le_pow_right (by omega) ?_)
    unfold rS at *
    omega
  · rename_i hs
    have h2 : N * 2 ^ (-rS N e).toNat < 2 ^ FL.bitsN N * 2 ^ (-rS N e).toNat := Nat.mul_lt_mul_of_pos_right h (Nat.pow_pos (by omega))
    rw [← Nat.pow_add] at h2
    refine Nat.lt_of_lt_of_le h2 (Nat.pow_le_pow_right (by omega) ?_)
    unfold rS at *
    omega
theorem bits_53 {q : Nat} (h : q ≤ 2 ^ 53) : 53 < FL.bitsN q ↔ q = 2 ^ 53 := by
  have := FL.bitsN_le_iff (n := q) (k := 53)
  constructor
  · intro h1; have : ¬ q < 2 ^ 53 := fun h2 => by have := this.2 h2; omega
    omega
  · rintro rfl; decide
set_option maxHeartbeats 16000000 in
set_option maxRecDepth 100000 in
theorem round_any (neg : Bool) (A : Option Addr) (n c N : Nat) (e : Int) (more : Bool) (w : World) (hA : Lst encD 1 w w.heap.size A n (FL.digs N)) (hn : n ≤ 900000) (h0 : N ≠ 0) (he1 : -4000000000000000000 ≤ e) (he2 : e ≤ 4000000000000000000) :
    Calls Tryz.prog 124 #[.bool neg, .slice A n c, .int .i64 e, .bool more] w fun e' w' => e' = .returned (.int .u64 (FL.roundR neg N e more : Nat)) ∧ Below w.heap.size w w' := by
  have hlen := hA.1
  have hn0 : 0 < n := by
    have := (FL.digs_len N h0).2
    rcases Nat.eq_zero_or_pos n with h | h
    · rw [hlen, h] at this; simp at this; omega
    · exact h
  have hbN : FL.bitsN N ≤ 32 * n := by rw [FL.bitsN_le_iff]; exact FL.digs_top N (by omega)
  have hbits := nbits_any A c N w (by rw [hlen]; exact hA) (by omega)
  rw [hlen] at hbits
  have hQ := rQ_lt N e
  have hsE : (FL.bitsN N : Int) - 53 ≤ rS N e ∧ -1074 - e ≤ rS N e ∧ (rS N e = (FL.bitsN N : Int) - 53 ∨ rS N e = -1074 - e) := by unfold rS; omega
  have hsd : rS N e = if ((FL.bitsN N : Int) - 53) < -1074 - e then -1074 - e else (FL.bitsN N : Int) - 53 := by unfold rS; split <;> omega
  obtain ⟨s, hs⟩ : ∃ s, rS N e = s := ⟨_, rfl⟩
  obtain ⟨bn, hbn⟩ : ∃ bn, FL.bitsN N = bn := ⟨_, rfl⟩
  rw [hbn] at hbN hbits hsE hsd
  rw [hs] at hQ hsE hsd
  obtain ⟨q0, hq0⟩ : ∃ q0, rQ N s = q0 := ⟨_, rfl⟩
  obtain ⟨up, hup⟩ : ∃ up, rUp N s more = up := ⟨_, rfl⟩
  obtain ⟨q, hq⟩ : ∃ q, q0 + up.toNat = q := ⟨_, rfl⟩
  obtain ⟨q2, hq2⟩ : ∃ q2, (if 53 < FL.bitsN q then q / 2 else q) = q2 := ⟨_, rfl⟩
  obtain ⟨e2, he2d⟩ : ∃ e2, (if 53 < FL.bitsN q then e + s + 1 else e + s) = e2 := ⟨_, rfl⟩
  rw [hq0] at hQ
  have hq53 : q ≤ 2 ^ 53 := by rw [← hq]; cases up <;> simp <;> omega
  have hfin := roundR_steps neg N e more h0 hs (by rw [hq0, hup]; exact hq) hq2 he2d
  obtain ⟨o, ho⟩ : ∃ o : Nat, (if neg then 2 ^ 63 else 0) = o := ⟨_, rfl⟩
  have ho2 : o = 0 ∨ o = 2 ^ 63 := by rw [← ho]; cases neg <;> simp
  rw [ho] at hfin
  have hnz : ((n : Int) == 0) = false := beq_eq_false_iff_ne.2 (by omega)
  have HL := Lib.hid (show _ ∧ _ ∧ _ from ⟨hA, h0, hbits⟩)
  have HS := Lib.hid (show _ ∧ _ ∧ _ ∧ _ ∧ _ from ⟨hsd, hq0, hup, hq, (show _ ∧ _ ∧ _ ∧ _ from ⟨hq2, he2d, ho, hfin⟩)⟩)
  have hs1 := hsE.1
  have hs2 := hsE.2.1
  have hs3 : s ≤ 4600000000000000000 := by omega
  clear hA h0 hbn hbits hlen hsd hq0 hup hq hq2 he2d ho hfin hs hsE
  go_enter Tryz.func124, Tryz.ntmps124
  go_upto_if 16 with (fail)
  go_cut [9] from 16 (fun s9 wc => s9 = .int .u64 o ∧ wc = w)
  case first =>
    cases neg
    all_goals
      go_wp2_with fail
      go_meet
      case rel => exact ⟨by rw [← HS.out.2.2.2.2.2.2.1]; rfl, rfl⟩
  case rest =>
    obtain ⟨rfl, hwc⟩ := hcut
    obtain rfl := hwc.symm
    clear hwc
    go_upto_region 7 with (first | (go_at_call 186; refine HL.out.2.2.mono ?_; rintro e1 w1 ⟨rfl, hb1⟩; have H1 := Lib.hid hb1; clear hb1))
    go_cut [10] from 16 (fun s10 wc => s10 = .int .i64 s ∧ Hid (Below w.heap.size w wc))
    case first =>
      go_wp2_with fail
      all_goals
        go_meet
        case rel => exact ⟨by rw [HS.out.1]; first | (split <;> first | rfl | (exfalso; omega)) | (congr 1; rw [Int.max_def]; split <;> split <;> omega), H1⟩
    case rest =>
      obtain ⟨rfl, H1⟩ := hcut
      go_upto_if 29 with (fail)
      go_cut [11, 12] from 16 (fun s11 s12 wc => s12 = .bool up ∧ Hid (NatHas w wc s11 q0))
      case first =>
        by_cases hpos : 0 < s
        · obtain ⟨k, hk⟩ : ∃ k : Nat, s = (k : Int) + 1 := ⟨(s - 1).toNat, by omega⟩
          subst hk
          have hk3 : (k : Int) ≤ 4600000000000000000 := by omega
          clear hs3
          have hq0e : N / 2 ^ (k + 1) = q0 := by
            have h := HS.out.2.1
            unfold rQ at h
            rw [if_pos hpos] at h
            rw [← h]
            congr 2
          have hupe : (N.testBit k && ((decide (0 < k) && FL.lostB N k) || more || q0.testBit 0)) = up := by
            have h := HS.out.2.2.1
            unfold rUp at h
            rw [HS.out.2.1, decide_eq_true hpos, Bool.true_and] at h
            rw [← h]
            have e1 : ((k : Int) + 1).toNat - 1 = k := by omega
            rw [e1, Nat.testBit_eq_decide_div_mod_eq, Nat.testBit_zero]
            have e2 : decide ((1 : Int) < (k : Int) + 1) = decide (0 < k) := by rw [decide_eq_decide]; omega
            rw [e2]
            simp only [FL.lostB]
            rfl
          have hd1 := fun W (hb : Below w.heap.size w W) => down_any A n c N (k + 1) W (nat_on HL.out.1 hb) (by omega) (by omega)
          have hd2 := fun W (hb : Below w.heap.size w W) => down_any A n c N k W (nat_on HL.out.1 hb) (by omega) (by omega)
          have hb1 := fun W (hb : Below w.heap.size w W) => bit_any A n c N k W (nat_on HL.out.1 hb) (by omega)
          have hpi : (0 : Int) < (k : Int) + 1 := hpos
          have ek : (((k + 1 : Nat) : Int)) = (k : Int) + 1 := by omega
          simp only [ek] at hd1
          have hw1 : IntKind.i64.wrap ((k : Int) + 1 - 1) = (k : Int) := by rw [show (k : Int) + 1 - 1 = k by omega]; exact IntWalk.i64_in _ (by omega)
          have hw2 : (k : Int) + 1 - 1 = (k : Int) := by omega
          obtain ⟨half, hhalf⟩ : ∃ half, N.testBit k = half := ⟨_, rfl⟩
          obtain ⟨lost, hlost⟩ : ∃ lost, FL.lostB N k = lost := ⟨_, rfl⟩
          rw [hhalf, hlost] at hupe
          rw [hhalf] at hb1
          have HD := Lib.hid (show _ ∧ _ ∧ _ ∧ _ ∧ _ from ⟨hd1, hd2, hb1, hq0e, hlost⟩)
          clear hd1 hd2 hb1 hq0e hhalf hlost ek hpos
          by_cases hk0 : 0 < k
          · have k1 : (1 : Int) < (k : Int) + 1 := by omega
            rw [decide_eq_true hk0, Bool.true_and] at hupe
            have HUP := Lib.hid (show _ ∧ _ ∧ _ ∧ _ from ⟨hupe, hQ, hq53, ho2⟩)
            clear hupe hQ hq53 ho2
            go_wp2_with fail
            refine (HD.out.1 _ H1.out).mono ?_
            rintro e1 w2 ⟨A2, n2, c2, rfl, hl2, hb2⟩
            have H2 := Lib.hid (show _ ∧ _ from ⟨hl2, H1.out.trans (hb2.mono H1.out.size)⟩)
            clear hl2 hb2
            go_wp2_with fail
            refine (HD.out.2.1 _ H2.out.2).mono ?_
            rintro e1 w3 ⟨A3, n3, c3, rfl, hl3, hb3⟩
            have H3 := Lib.hid (show _ ∧ _ from ⟨nat_on H2.out.1 hb3, H2.out.2.trans (hb3.mono H2.out.2.size)⟩)
            clear hl3 hb3
            go_wp2_with fail
            refine (HD.out.2.2.1 _ H3.out.2).mono ?_
            rintro e1 w4 ⟨rfl, hb4⟩
            have H4 := Lib.hid (show _ ∧ _ from ⟨nat_on H3.out.1 hb4, H3.out.2.trans (hb4.mono H3.out.2.size)⟩)
            clear hb4
            have hb5 := bit_any A2 n2 c2 q0 0 w4 (by have h := H4.out.1; rw [HD.out.2.2.2.1] at h; exact h) (by omega)
            obtain ⟨b0, hb0⟩ : ∃ b0, q0.testBit 0 = b0 := ⟨_, rfl⟩
            have hupe := HUP.out.1
            rw [hb0] at hupe hb5
            rw [HD.out.2.2.2.2]
            have HB := Lib.hid hb5
            clear hb5 hb0
            cases half <;> cases lost <;> cases more
            all_goals
              have HU := Lib.hid hupe
              clear hupe
              go_wp2_with (first | (go_at_call 188; refine HB.out.mono ?_; rintro e1 w5 ⟨rfl, hb5⟩; have H5 := Lib.hid (show _ ∧ _ from ⟨nat_on H4.out.1 hb5, H4.out.2.trans (hb5.mono H4.out.2.size)⟩); clear hb5))
              go_meet
              case rel =>
                first
                  | exact ⟨by rw [← HU.out]; simp, Lib.hid (NatHas.of (by have h := H5.out.1; rw [HD.out.2.2.2.1] at h; exact h) H5.out.2)⟩
                  | exact ⟨by rw [← HU.out]; simp, Lib.hid (NatHas.of (by have h := H4.out.1; rw [HD.out.2.2.2.1] at h; exact h) H4.out.2)⟩
          · obtain rfl : k = 0 := by omega
            rw [decide_eq_false (by omega), Bool.false_and, Bool.false_or] at hupe
            have HUP := Lib.hid (show _ ∧ _ ∧ _ ∧ _ from ⟨hupe, hQ, hq53, ho2⟩)
            clear hupe hQ hq53 ho2 hk3 hk0 hw1 hw2 hpi
            have hd1 := HD.out.1
            simp only [Int.natCast_zero, Int.zero_add] at hd1
            go_wp2_with fail
            refine (hd1 _ H1.out).mono ?_
            rintro e1 w2 ⟨A2, n2, c2, rfl, hl2, hb2⟩
            have H2 := Lib.hid (show _ ∧ _ from ⟨hl2, H1.out.trans (hb2.mono H1.out.size)⟩)
            clear hl2 hb2
            have hb1 := HD.out.2.2.1
            simp only [Int.natCast_zero] at hb1
            go_wp2_with fail
            refine (hb1 _ H2.out.2).mono ?_
            rintro e1 w4 ⟨rfl, hb4⟩
            have H4 := Lib.hid (show _ ∧ _ from ⟨nat_on H2.out.1 hb4, H2.out.2.trans (hb4.mono H2.out.2.size)⟩)
            clear hb4 hd1 hb1
            have hb5 := bit_any A2 n2 c2 q0 0 w4 (by have h := H4.out.1; rw [HD.out.2.2.2.1] at h; exact h) (by omega)
            obtain ⟨b0, hb0⟩ : ∃ b0, q0.testBit 0 = b0 := ⟨_, rfl⟩
            have hupe := HUP.out.1
            rw [hb0] at hupe hb5
            have HB := Lib.hid hb5
            clear hb5 hb0
            cases half <;> cases more
            all_goals
              have HU := Lib.hid hupe
              clear hupe
              go_wp2_with (first | (go_at_call 188; refine HB.out.mono ?_; rintro e1 w5 ⟨rfl, hb5⟩; have H5 := Lib.hid (show _ ∧ _ from ⟨nat_on H4.out.1 hb5, H4.out.2.trans (hb5.mono H4.out.2.size)⟩); clear hb5))
              go_meet
              case rel =>
                first
                  | exact ⟨by rw [← HU.out]; simp, Lib.hid (NatHas.of (by have h := H5.out.1; rw [HD.out.2.2.2.1] at h; exact h) H5.out.2)⟩
                  | exact ⟨by rw [← HU.out]; simp, Lib.hid (NatHas.of (by have h := H4.out.1; rw [HD.out.2.2.2.1] at h; exact h) H4.out.2)⟩
        · obtain ⟨k, hk⟩ : ∃ k : Nat, s = -(k : Int) := ⟨(-s).toNat, by omega⟩
          subst hk
          have hk53 : k ≤ 53 := by omega
          have hq0e : N * 2 ^ k = q0 := by
            have h := HS.out.2.1
            unfold rQ at h
            rw [if_neg hpos, Int.neg_neg, Int.toNat_natCast] at h
            exact h
          have hupe : up = false := by
            have h := HS.out.2.2.1
            unfold rUp at h
            rw [decide_eq_false hpos, Bool.false_and, Bool.false_and] at h
            exact h.symm
          have hnk : IntKind.i64.wrap (- -(k : Int)) = (k : Int) := by rw [Int.neg_neg]; exact IntWalk.i64_in _ (by omega)
          have hpi : ¬ (0 : Int) < -(k : Int) := hpos
          have hu := fun W (hb : Below w.heap.size w W) => up_any A n c N k W (nat_on HL.out.1 hb) (by omega) (by omega)
          rw [hq0e] at hu
          have HU := Lib.hid (show _ ∧ _ ∧ _ ∧ _ ∧ _ from ⟨hu, hupe, hQ, hq53, ho2⟩)
          clear hu hupe hQ hq53 ho2 hq0e hs3 hpos hs1 hs2
          go_wp2_with fail
          refine (HU.out.1 _ H1.out).mono ?_
          rintro e1 w2 ⟨A2, n2, c2, rfl, hl2, hb2, _⟩
          have H2 := Lib.hid (show _ ∧ _ from ⟨hl2, H1.out.trans (hb2.mono H1.out.size)⟩)
          clear hl2 hb2
          go_wp2_with fail
          go_meet
          case rel => exact ⟨by rw [HU.out.2.1], Lib.hid (NatHas.of H2.out.1 H2.out.2)⟩
      case rest =>
        obtain ⟨rfl, H2⟩ := hcut
        obtain ⟨A2, n2, c2, rfl, hl2, hb2⟩ := H2.out
        have hn2 : n2 ≤ 2 := nat_few (Nat.lt_of_lt_of_le hQ (by decide)) hl2
        have HQ := Lib.hid (show _ ∧ _ ∧ _ ∧ _ ∧ _ from ⟨hl2, hb2, hQ, hq53, ho2⟩)
        clear hl2 hb2 H2 hQ hq53 ho2
        go_upto_if 64 with (fail)
        go_cut [11] from 16 (fun s11 wc => Hid (NatHas w wc s11 q))
        case first =>
          cases up with
          | false =>
            go_wp2_with fail
            go_meet
            case rel => exact Lib.hid (NatHas.of (by have h := HS.out.2.2.2.1; simp only [Bool.toNat_false, Nat.add_zero] at h; rw [← h]; exact HQ.out.1) HQ.out.2.1)
          | true =>
            go_wp2_with fail
            refine (from_any 1 (by omega) _).mono ?_
            rintro e1 w5 ⟨A5, n5, c5, rfl, hl5, hb5, _⟩
            have hn5 : n5 ≤ 1 := nat_few (by decide) hl5
            have H5 := Lib.hid (show _ ∧ _ ∧ _ from ⟨nat_on HQ.out.1 hb5, HQ.out.2.1.trans (hb5.mono HQ.out.2.1.size), hl5⟩)
            clear hl5 hb5
            go_wp2_with fail
            refine (plus_any A2 A5 n2 c2 n5 c5 q0 1 w5 H5.out.1 H5.out.2.2 (by omega) (by omega)).mono ?_
            rintro e1 w6 ⟨A6, n6, c6, rfl, hl6, hb6, _⟩
            have H6 := Lib.hid (show _ ∧ _ from ⟨hl6, H5.out.2.1.trans (hb6.mono H5.out.2.1.size)⟩)
            clear hl6 hb6
            go_wp2_with fail
            go_meet
            case rel => exact Lib.hid (NatHas.of (by have h := HS.out.2.2.2.1; simp only [Bool.toNat_true] at h; rw [← h]; exact H6.out.1) H6.out.2)
        case rest =>
          obtain ⟨A3, n3, c3, rfl, hl3, hb3⟩ := hcut.out
          have hn3 : n3 ≤ 2 := nat_few (Nat.lt_of_le_of_lt HQ.out.2.2.2.1 (by decide)) hl3
          have hq53 := HQ.out.2.2.2.1
          have h3 := Lib.hid (show _ ∧ _ from ⟨hl3, hb3⟩)
          have hbq := nbits_any A3 c3 q wc (by rw [hl3.1]; exact hl3) (by rw [hl3.1]; omega)
          rw [hl3.1] at hbq
          have hdn := fun W (hb : Below wc.heap.size wc W) => down_any A3 n3 c3 q 1 W (nat_on hl3 hb) (by omega) (by omega)
          have hq2 := HS.out.2.2.2.2.1
          have he2 := HS.out.2.2.2.2.2.1
          have hq2le : q2 < 2 ^ 53 := by
            rw [← hq2]
            split
            · omega
            · exact (FL.bitsN_le_iff).1 (by omega)
          obtain ⟨b3, hb3e⟩ : ∃ b3, FL.bitsN q = b3 := ⟨_, rfl⟩
          have hb54 : b3 ≤ 54 := by rw [← hb3e, FL.bitsN_le_iff]; exact Nat.lt_of_le_of_lt hq53 (by decide)
          rw [hb3e] at hbq hq2 he2
          have he2lo : -1074 ≤ e2 := by rw [← he2]; split <;> omega
          have he2hi : e2 ≤ 8600000000000000001 := by rw [← he2]; split <;> omega
          have hes : IntKind.i64.wrap (e + s) = e + s := IntWalk.i64_in _ (by omega)
          have H4 := Lib.hid (show _ ∧ _ ∧ _ ∧ _ ∧ _ from ⟨hbq, hdn, hq2, he2, (show _ ∧ _ ∧ _ from ⟨he2lo, hq2le, hb3e⟩)⟩)
          have HES := Lib.hid (show _ ∧ _ ∧ _ from ⟨hs2, hs3, he2hi⟩)
          have hels : -1074 ≤ e + s := by omega
          have hehi : e + s ≤ 8600000000000000000 := by omega
          clear hbq hdn hq2 he2 hl3 hb3 hb3e he2lo hq2le hq53 hcut HQ he2hi
          go_wp2_with fail
          refine H4.out.1.mono ?_
          rintro e1 w4 ⟨rfl, hb4⟩
          have H5 := Lib.hid (show _ ∧ _ from ⟨hb4, (show Below w.heap.size w w4 from h3.out.2.trans (hb4.mono h3.out.2.size))⟩)
          clear hb4
          go_upto_if 73 with (fail)
          go_cut [2, 11] from 16 (fun s2 s11 wd => s2 = .int .i64 e2 ∧ Hid (NatHas w wd s11 q2))
          case first =>
            by_cases h53 : 53 < b3
            · have d1 : (53 : Int) < (b3 : Int) := by omega
              have e2e : e + s + 1 = e2 := by have h := H4.out.2.2.2.1; rw [if_pos h53] at h; exact h
              have q2e : q / 2 = q2 := by have h := H4.out.2.2.1; rw [if_pos h53] at h; exact h
              have hw : IntKind.i64.wrap (e + s + 1) = e + s + 1 := IntWalk.i64_in _ (by omega)
              have HE := Lib.hid (show _ ∧ _ from ⟨e2e, q2e⟩)
              clear e2e q2e h53
              go_wp2_with fail
              refine (H4.out.2.1 _ H5.out.1).mono ?_
              rintro e1 w6 ⟨A6, n6, c6, rfl, hl6, hb6⟩
              have H6 := Lib.hid (show _ ∧ _ from ⟨hl6, H5.out.2.trans (hb6.mono H5.out.2.size)⟩)
              clear hl6 hb6
              go_wp2_with fail
              go_meet
              case rel => exact ⟨by rw [HE.out.1], Lib.hid (NatHas.of (by rw [← HE.out.2]; exact H6.out.1) H6.out.2)⟩
            · have d1 : ¬ (53 : Int) < (b3 : Int) := by omega
              have e2e : e + s = e2 := by have h := H4.out.2.2.2.1; rw [if_neg h53] at h; exact h
              have q2e : q = q2 := by have h := H4.out.2.2.1; rw [if_neg h53] at h; exact h
              have HE := Lib.hid (show _ ∧ _ from ⟨e2e, q2e⟩)
              clear e2e q2e h53
              go_wp2_with fail
              go_meet
              case rel => exact ⟨by rw [HE.out.1], Lib.hid (NatHas.of (by rw [← HE.out.2]; exact nat_on h3.out.1 H5.out.1) H5.out.2)⟩
          case rest =>
            obtain ⟨rfl, H6⟩ := hcut
            obtain ⟨A6, n6, c6, rfl, hl6, hb6⟩ := H6.out
            have hlow := low_any A6 n6 c6 q2 _ hl6
            have hq2le := H4.out.2.2.2.2.2.1
            rw [Nat.mod_eq_of_lt (Nat.lt_trans hq2le (by decide))] at hlow
            have he2lo := H4.out.2.2.2.2.1
            have he2hi := HES.out.2.2
            have hfin := HS.out.2.2.2.2.2.2.2
            obtain ⟨x, hx⟩ : ∃ x : Int, (q2 : Int) = x := ⟨_, rfl⟩
            rw [hx] at hlow
            have HW := Lib.hid (show _ ∧ _ from ⟨hlow, hb6⟩)
            have ho2 : o = 0 ∨ o = 2 ^ 63 := by rw [← HS.out.2.2.2.2.2.2.1]; cases neg <;> simp
            clear hlow H6 hl6 hb6 hes hels hehi hs1 hs2 hs3
            by_cases hm : q2 < 2 ^ 52
            · rw [if_pos hm] at hfin
              have hor := or_out o q2 ho2 (by omega)
              have d1 : x < 4503599627370496 := by omega
              have d0 : 0 ≤ x := by omega
              rw [hx] at hor
              obtain ⟨R, hR⟩ : ∃ R, o + q2 = R := ⟨_, rfl⟩
              rw [hR] at hor hfin
              have HF := Lib.hid hfin
              have HE := Lib.hid (show _ ∧ _ ∧ _ from ⟨he2lo, he2hi, hq2le⟩)
              clear hfin hR hm ho2 he2lo he2hi hq2le hx
              go_wp2_with fail
              refine HW.out.1.mono ?_
              rintro e1 w7 ⟨rfl, hb7⟩
              have H7 := Lib.hid (HW.out.2.trans (hb7.mono HW.out.2.size))
              clear hb7
              go_wp2
              go_ret
              exact ⟨by rw [HF.out]; rfl, H7.out⟩
            · rw [if_neg hm] at hfin
              have d1 : 4503599627370496 ≤ x := by omega
              have d0 : 0 ≤ x := by omega
              have hw : IntKind.i64.wrap (e2 + 1075) = e2 + 1075 := IntWalk.i64_in _ (by omega)
              by_cases hi : 2047 ≤ e2 + 1075
              · rw [if_pos hi] at hfin
                have hor := or_out o (2047 * 2 ^ 52) ho2 (by decide)
                rw [show ((2047 * 2 ^ 52 : Nat) : Int) = 9218868437227405312 by decide] at hor
                obtain ⟨R, hR⟩ : ∃ R, o + 2047 * 2 ^ 52 = R := ⟨_, rfl⟩
                rw [hR] at hor hfin
                have HF := Lib.hid hfin
                have HE := Lib.hid (show _ ∧ _ ∧ _ from ⟨he2lo, he2hi, hq2le⟩)
                clear hfin hR hm ho2 he2lo he2hi hq2le hx
                go_wp2_with fail
                refine HW.out.1.mono ?_
                rintro e1 w7 ⟨rfl, hb7⟩
                have H7 := Lib.hid (HW.out.2.trans (hb7.mono HW.out.2.size))
                clear hb7
                go_wp2
                go_ret
                exact ⟨by rw [HF.out]; rfl, H7.out⟩
              · rw [if_neg hi] at hfin
                obtain ⟨E, hE⟩ : ∃ E : Nat, e2 + 1075 = (E : Int) := ⟨(e2 + 1075).toNat, by omega⟩
                rw [hE, Int.toNat_natCast] at hfin
                have hEl : E < 2 ^ 11 := by omega
                obtain ⟨B52, hB52⟩ : ∃ B : Nat, 2 ^ 52 = B := ⟨_, rfl⟩
                have hB52i : (B52 : Int) = 4503599627370496 := by rw [← hB52]; decide
                have hmB : B52 ≤ q2 := by omega
                obtain ⟨m, hmm⟩ : ∃ m, q2 - B52 = m := ⟨_, rfl⟩
                have hml : m < 2 ^ 52 := by omega
                have h1 := or_out o (E * 2 ^ 52) ho2 (by omega)
                have h2 := or_low E m hEl hml o ho2
                rw [hB52] at h1 h2 hfin
                rw [hmm] at hfin
                obtain ⟨P, hP⟩ : ∃ P, E * B52 = P := ⟨_, rfl⟩
                have hPi : (E : Int) * 4503599627370496 = (P : Int) := by rw [← hP, ← hB52i, Int.natCast_mul]
                have hPl : P < 2 ^ 63 := by rw [← hP, ← hB52]; omega
                rw [hP] at h1 h2 hfin
                obtain ⟨o2, ho2e⟩ : ∃ o2, o + P = o2 := ⟨_, rfl⟩
                rw [ho2e] at h1 h2 hfin
                obtain ⟨R, hR⟩ : ∃ R, o2 + m = R := ⟨_, rfl⟩
                rw [hR] at h2 hfin
                have hsh : IntKind.u64.wrap ((E : Int) * 4503599627370496) = (P : Int) := by rw [hPi]; exact wraps_u64 _ (by omega) (by omega)
                have hsub : x - 4503599627370496 = (m : Int) := by rw [← hx, ← hB52i]; omega
                have hwm : IntKind.u64.wrap (m : Int) = (m : Int) := wraps_u64 _ (by omega) (by omega)
                have d3 : ¬ (2047 : Int) ≤ (E : Int) := by omega
                have d4 : (E : Int) < 2048 := by omega
                have hsub2 : IntKind.u64.wrap (x - 4503599627370496) = (m : Int) := by rw [hsub]; exact wraps_u64 _ (by omega) (by omega)
                have HF := Lib.hid (show _ ∧ _ ∧ _ ∧ _ from ⟨hfin, he2lo, he2hi, hq2le⟩)
                clear hfin hR hm ho2 he2lo he2hi hq2le ho2e hP hmm hml hEl hB52 hB52i hmB hi hPl hPi hx
                go_wp2_with fail
                refine HW.out.1.mono ?_
                rintro e1 w7 ⟨rfl, hb7⟩
                have H7 := Lib.hid (HW.out.2.trans (hb7.mono HW.out.2.size))
                clear hb7
                go_wp2
                go_ret
                exact ⟨by rw [HF.out.1]; rfl, H7.out⟩
end Go.Proofs.YtajaijidecomdaaGreatDoor
