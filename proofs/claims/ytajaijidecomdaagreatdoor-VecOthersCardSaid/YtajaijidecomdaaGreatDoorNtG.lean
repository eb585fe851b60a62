/- The document's whole numbers: Parts. -/
import Derived.Test.YtajaijidecomdaaGreatDoorG29
namespace Go.Proofs.YtajaijidecomdaaGreatDoor
open Go.RowKit Go.Lib

/-- Quotient and rest that are handed back. -/
def PartsPost (N M : Nat) (w : World) (e : Ending) (w' : World) : Prop := ∃ A n c A' n' c', e = .returned (.tuple #[.slice A n c, .slice A' n' c']) ∧ Lst encD 1 w' w'.heap.size A n (FL.digs (N / M)) ∧ Lst encD 1 w' w'.heap.size A' n' (FL.digs (N % M)) ∧ Below w.heap.size w w'
theorem u32_or (x y : Nat) (hx : x < 2 ^ 32) (hy : y < 2 ^ 32) : bits .or .u32 (x : Int) (y : Int) = ((x ||| y : Nat) : Int) :=
  (bits_nat .u32 32 (by decide) (fun n h0 h1 => by simp [IntKind.wrap, IntKind.bits, IntKind.signed]; omega) x y hx hy).2
theorem wraps_u32 (n : Int) (h1 : 0 ≤ n) (h2 : n < 2 ^ 32) : IntKind.u32.wrap n = n := by simp [IntKind.wrap, IntKind.bits, IntKind.signed]; omega
theorem nat_on {w w' : World} {A : Option Addr} {n N : Nat} (h : Lst encD 1 w w.heap.size A n (FL.digs N)) (hb : Below w.heap.size w w') : Lst encD 1 w' w'.heap.size A n (FL.digs N) := (h.below hb).more hb.size
theorem lst_set {α : Type} {enc : α → List Value} {size : Nat} {w : World} {B : Nat} {A : Option Addr} {n g : Nat} {l : List α} (h : Lst enc size w B A n l) (hne : ∀ ad, A = some ad → ad.block ≠ g) (j : Nat) (v : Value) : Lst enc size (w.setCell ⟨g, j, none⟩ v) B A n l := by
  refine ⟨h.1, fun hn => ?_⟩
  obtain ⟨b, off, e, hb, hc⟩ := h.2 hn
  refine ⟨b, off, e, hb, fun k x hx i u hu => ?_⟩
  have hbg : b ≠ g := hne _ e
  rw [← hc k x hx i u hu]
  exact World.cell?_of_block (heap_setCell_other w ⟨g, j, none⟩ b v hbg)
theorem nat_few {N k : Nat} (h : N < 2 ^ (32 * k)) {w : World} {B : Nat} {A : Option Addr} {n : Nat} (hL : Lst encD 1 w B A n (FL.digs N)) : n ≤ k := by rw [← hL.1]; exact FL.digs_len_le h
set_option maxHeartbeats 16000000 in
set_option maxRecDepth 100000 in
theorem parts_any (A B : Option Addr) (n c m c' N M : Nat) (w : World) (hA : Lst encD 1 w w.heap.size A n (FL.digs N)) (hB : Lst encD 1 w w.heap.size B m (FL.digs M)) (hn : n ≤ 900000) (hm : m ≤ 900000) (hM : M ≠ 0) :
    Calls Tryz.prog 133 #[.slice A n c, .slice B m c'] w (PartsPost N M w) := by
  obtain ⟨i0, hi, hz0, hz1, hz2⟩ := info_parts Tryz.infoWord
  have hMp : 0 < M := by omega
  have hbN : FL.bitsN N ≤ 32 * n := by rw [FL.bitsN_le_iff]; exact FL.digs_top N (by rw [hA.1]; exact Nat.le_refl _)
  have hMm : M < 2 ^ (32 * m) := FL.digs_top M (by rw [hB.1]; exact Nat.le_refl _)
  have HL := Lib.hid (show _ ∧ _ ∧ _ ∧ _ ∧ _ from ⟨hA, hB, hA.1, hMp, hMm⟩)
  obtain ⟨bn, hbn⟩ : ∃ bn, FL.bitsN N = bn := ⟨_, rfl⟩
  rw [hbn] at hbN
  have HBN := Lib.hid hbn
  have hb4 : i0.bytes * n ≤ 281474976710656 := by rw [hz2]; omega
  have HB4 := Lib.hid hb4
  clear hb4 hA hB hbn hMp hMm hM
  go_enter Tryz.func133, Tryz.ntmps133
  go_wp2_with (first | (refine wpList_make_full _ rfl _ _ 155 rfl w.heap.size 182 i0 _ 1 Tryz.underlying155 hi hz0 hz1 .i64 .i64 _ _ n rfl rfl rfl rfl HB4.out (by unfold maxLen; omega) (Nat.le_refl _) ?_) | fail)
  intro w1 hown1 hg1
  rw [make_zeros] at hown1
  have hb1 : Below w.heap.size w w1 := (Below.refl _ w).grown hg1 (Nat.le_refl _) (fun j hj => by cases hj)
  have hst := FL.PartsInv.start N M
  rw [HL.out.2.2.1, HBN.out] at hst
  have hbits := nbits_any A c N w1 (by have h := nat_on HL.out.1 hb1; rw [← HL.out.2.2.1] at h; exact h) (by rw [HL.out.2.2.1]; omega)
  rw [HBN.out, HL.out.2.2.1] at hbits
  have H1 := Lib.hid (show _ ∧ _ ∧ _ ∧ _ from ⟨hown1, hst, hb1, hbits⟩)
  clear hown1 hg1 hb1 hst hi hz0 hz1 hz2 hbits
  go_wp2_with fail
  refine H1.out.2.2.2.mono ?_
  rintro e w2 ⟨rfl, hb2⟩
  have H2 := Lib.hid (show _ ∧ _ from ⟨owns_below H1.out.1 hb2, H1.out.2.2.1.trans (hb2.mono H1.out.2.2.1.size)⟩)
  clear hb2
  have hw0 : IntKind.i64.wrap ((bn : Int) - 1) = (bn : Int) - 1 := IntWalk.i64_in _ (by omega)
  go_wp2
  clear hw0
  go_loopw [7, 8] (fun rv iv wr => ∃ (i : Nat) (p : Int) (ds : List Nat) (Ar : Option Addr) (nr cr : Nat), i ≤ bn ∧ p = (i : Int) - 1 ∧ iv = .int .i64 p ∧ rv = .slice Ar nr cr ∧ Hid (Lst encD 1 wr wr.heap.size Ar nr (FL.digs (N / 2 ^ i % M)) ∧ wr.ownsRow w.heap.size 182 1 (.slice (some ⟨w.heap.size, 0, none⟩) n n) n (ds.flatMap encD) ∧ FL.PartsInv N M i ds ∧ Below w.heap.size w wr ∧ w.heap.size < wr.heap.size ∧ ∀ ad, Ar = some ad → ad.block ≠ w.heap.size)) (fun _ iv _ => (intOf iv + 1).toNat)
  case atStart =>
    refine ⟨bn, _, _, none, 0, 0, Nat.le_refl _, rfl, by first | rfl | simp, rfl, Lib.hid ⟨?_, H2.out.1, H1.out.2.1, H2.out.2, (H2.out.1.lt w.heap.size rfl).2, fun ad h => by cases h⟩⟩
    rw [← HBN.out, Nat.div_eq_of_lt (FL.bitsN_lt N), Nat.zero_mod, FL.digs_zero]
    exact Lst.nil
  case round =>
    obtain ⟨i, p, ds, Ar, nr, cr, hib, hp, rfl, rfl, HR⟩ := hrel
    cases i with
    | zero =>
      obtain rfl : p = -1 := by simpa using hp
      have hend := HR.out.2.2.1.end_
      obtain ⟨A1, c1, hv, hcall⟩ := trim_post HR.out.2.1 HR.out.2.2.2.1 hend
      cases hv
      have hrr := HR.out.1
      rw [Nat.pow_zero, Nat.div_one] at hrr
      have HT := Lib.hid (show _ ∧ _ from ⟨(trim_any (some ⟨w.heap.size, 0, none⟩) n n ds wr ((owns_lst HR.out.2.1 encD_len (by omega)).1) (Nat.le_refl _) (by unfold maxLen; omega)), hrr⟩)
      have HE := Lib.hid hend
      clear hend hcall hrr hp
      go_wp2_with fail
      refine HT.out.1.mono ?_
      rintro e w3 ⟨rfl, hl3, hb3⟩
      have H3 := Lib.hid (show _ ∧ _ ∧ _ from ⟨hl3, nat_on HT.out.2 hb3, HR.out.2.2.2.1.trans (hb3.mono HR.out.2.2.2.1.size)⟩)
      clear hl3 hb3
      go_wp2
      refine bodyPost_ret (v := .tuple #[.slice (some ⟨w.heap.size, 0, none⟩) (FL.trimD ds).length n, .slice Ar nr cr]) (by simp [results, Tryz.results133, go_sem]) rfl ⟨_, _, _, _, _, _, rfl, ?_, H3.out.2.1, H3.out.2.2⟩
      have h := H3.out.1
      rw [HE.out] at h ⊢
      exact h
    | succ k =>
      obtain rfl : p = (k : Int) := by omega
      have j0 : (0 : Int) ≤ (k : Int) := by omega
      have hR := Nat.mod_lt (N / 2 ^ (k + 1)) HL.out.2.2.2.1
      have hnr : nr ≤ m := nat_few (by have := HL.out.2.2.2.2; omega) HR.out.1
      have hup := up_any Ar nr cr (N / 2 ^ (k + 1) % M) 1 wr HR.out.1 (by omega) (by omega)
      have hbit := fun W (hb : Below w.heap.size w W) => bit_any A n c N k W (nat_on HL.out.1 hb) (by omega)
      obtain ⟨R, hRe⟩ : ∃ R, N / 2 ^ (k + 1) % M = R := ⟨_, rfl⟩
      obtain ⟨bt, hbt⟩ : ∃ bt, N.testBit k = bt := ⟨_, rfl⟩
      rw [hRe] at hup hR
      rw [hbt] at hbit
      rw [Nat.pow_one] at hup
      have hX : 2 * R + 1 < 2 ^ (32 * (m + 1)) := by
        have h1 := HL.out.2.2.2.2
        have h2 : 2 ^ (32 * (m + 1)) = 2 ^ 32 * 2 ^ (32 * m) := by rw [Nat.mul_add, Nat.pow_add, Nat.mul_comm]
        omega
      have HX := Lib.hid (show _ ∧ _ ∧ _ ∧ _ ∧ _ from ⟨hup, hbit, hRe, hbt, hX⟩)
      clear hup hbit hRe hbt hX hp
      cases bt with
      | false =>
        go_wp2_with fail
        refine HX.out.1.mono ?_
        rintro e w3 ⟨A3, n3, c3, rfl, hl3, hb3, hf3⟩
        have hn3 : n3 ≤ m + 1 := nat_few (by have := HX.out.2.2.2.2; omega) hl3
        have H3 := Lib.hid (show _ ∧ _ ∧ _ from ⟨hl3, HR.out.2.2.2.1.trans (hb3.mono HR.out.2.2.2.1.size), owns_below HR.out.2.1 hb3⟩)
        have hz3 := HR.out.2.2.2.2.1
        have hs3 := hb3.size
        have HF := Lib.hid (show ∀ ad, A3 = some ad → ad.block ≠ w.heap.size from fun ad h => by have := hf3 ad h; omega)
        clear hl3 hb3 hf3
        go_wp2_with fail
        refine (HX.out.2.1 _ H3.out.2.1).mono ?_
        rintro e w4 ⟨rfl, hb4⟩
        have H4 := Lib.hid (show _ ∧ _ ∧ _ from ⟨nat_on H3.out.1 hb4, H3.out.2.1.trans (hb4.mono H3.out.2.1.size), owns_below H3.out.2.2 hb4⟩)
        have hs4 := hb4.size
        clear hb4 H3
        have hrest := Lib.hid (show 2 * (N / 2 ^ (k + 1) % M) + (N.testBit k).toNat = R * 2 by rw [HX.out.2.2.1, HX.out.2.2.2.1]; simp; omega)
        go_wp2_with fail
        refine (less_any A3 B n3 c3 m c' (R * 2) M w4 H4.out.1 (nat_on HL.out.2.1 H4.out.2.1) (by omega) (by omega)).mono ?_
        rintro e w7 ⟨rfl, hb7⟩
        have H7 := Lib.hid (show _ ∧ _ ∧ _ from ⟨nat_on H4.out.1 hb7, H4.out.2.1.trans (hb7.mono H4.out.2.1.size), owns_below H4.out.2.2 hb7⟩)
        have hs7 := hb7.size
        clear hb7 H4
        by_cases hlt : R * 2 < M
        · have hls : FL.lessR (R * 2) M = -1 := if_pos hlt
          have hno := FL.parts_no HL.out.2.2.2.1 (by rw [hrest.out]; exact hlt)
          have hinv := HR.out.2.2.1.no HL.out.2.2.2.1 (by rw [hrest.out]; exact hlt)
          rw [hrest.out] at hno
          have HN := Lib.hid (show _ ∧ _ from ⟨hno.1, hinv⟩)
          rw [hls]
          clear hno hinv hls hlt
          go_wp2
          go_roundw
          case measure => simp [intOf]
          case rel => exact ⟨k, _, ds, A3, n3, c3, by omega, rfl, by first | rfl | simp, rfl, Lib.hid ⟨by rw [HN.out.1]; exact H7.out.1, H7.out.2.2, HN.out.2, H7.out.2.1, by omega, HF.out⟩⟩
        · have hls : 0 ≤ FL.lessR (R * 2) M := by unfold FL.lessR; rw [if_neg hlt]; split <;> omega
          obtain ⟨lv, hlv⟩ : ∃ lv, FL.lessR (R * 2) M = lv := ⟨_, rfl⟩
          rw [hlv] at hls ⊢
          clear hlv
          have hyes := FL.parts_yes HL.out.2.2.2.1 (by rw [hrest.out]; omega)
          obtain ⟨q, hq⟩ : ∃ q, k / 32 = q := ⟨_, rfl⟩
          obtain ⟨r, hr⟩ : ∃ r, k % 32 = r := ⟨_, rfl⟩
          have hqi : (k : Int) / 32 = (q : Int) := by omega
          have hri : (k : Int) % 32 = (r : Int) := by omega
          have hr32 : r < 32 := by omega
          have hlen := HR.out.2.2.1.1
          rw [HL.out.2.2.1] at hlen
          have hqn : q < n := by omega
          obtain ⟨o, ho⟩ : ∃ o, ds[k / 32]? = some o := ⟨_, List.getElem?_eq_getElem (by omega)⟩
          obtain ⟨hinv, hor⟩ := HR.out.2.2.1.yes HL.out.2.2.2.1 (by rw [hrest.out]; omega) ho
          have bo : o < 2 ^ 32 := HR.out.2.2.1.2.1 o (List.mem_of_getElem? ho)
          rw [hrest.out] at hyes
          rw [hq, hr] at hinv
          rw [hr] at hor
          rw [hq] at ho
          have hp2 : 2 ^ r < 2 ^ 32 := Nat.pow_lt_pow_right (by omega) hr32
          obtain ⟨pw, hpw⟩ : ∃ pw, 2 ^ r = pw := ⟨_, rfl⟩
          have hpi : (2 : Int) ^ r = (pw : Int) := by rw [← hpw]; simp
          rw [hpw] at hp2 hor hinv
          have hsh : IntKind.u32.wrap ((2 : Int) ^ r) = (pw : Int) := by rw [hpi]; exact wraps_u32 _ (by omega) (by omega)
          have ho2 := u32_or o pw bo hp2
          obtain ⟨o2, ho2e⟩ : ∃ o2, o ||| pw = o2 := ⟨_, rfl⟩
          rw [ho2e] at ho2 hinv hor
          have e0 := owns_at H7.out.2.2 encD_len ho (j := 0) rfl
          simp only [Nat.add_zero, Nat.mul_one] at e0
          have f0 := H7.out.2.2.frozenAt q
          have hqs := (H7.out.2.2.lt w.heap.size rfl).2
          have HN := Lib.hid (show _ ∧ _ ∧ _ ∧ _ ∧ _ from ⟨hyes.1, hinv, ho, e0, f0⟩)
          clear hyes hinv ho hlen hq hr hpw hpi ho2e e0 f0
          have i3 : (0 : Int) ≤ (q : Int) := by omega
          have i4 : (q : Int) < (n : Int) := by omega
          go_wp2_with fail
          refine (minus_any A3 B n3 c3 m c' (R * 2) M w7 H7.out.1 (nat_on HL.out.2.1 H7.out.2.1) (by omega) (by omega)).mono ?_
          rintro e w8 ⟨A8, n8, c8, rfl, hl8, hb8, hf8⟩
          have hown8 := owns_below H7.out.2.2 hb8
          have e0 := owns_at hown8 encD_len HN.out.2.2.1 (j := 0) rfl
          simp only [Nat.add_zero, Nat.mul_one] at e0
          have f0 := hown8.frozenAt q
          have H8 := Lib.hid (show _ ∧ _ ∧ _ from ⟨hl8, hown8, H7.out.2.1.trans (hb8.mono H7.out.2.1.size)⟩)
          have hs8 := hb8.size
          have HF8 := Lib.hid (show ∀ ad, A8 = some ad → ad.block ≠ w.heap.size from fun ad h => by have := hf8 ad h; omega)
          clear hl8 hb8 hown8 hf8
          go_wp2_with (go_quiet (fail))
          go_roundw
          case measure => simp [intOf]
          case rel =>
            have hst := own_stored rfl H8.out.2.2 H8.out.2.1 q o2
            have hrl := lst_set H8.out.1 HF8.out q (.int .u32 o2)
            refine ⟨k, _, _, A8, n8, c8, by omega, rfl, by first | rfl | simp, rfl, Lib.hid ⟨?_, hst.1, HN.out.2.1, hst.2, ?_, HF8.out⟩⟩
            · rw [HN.out.1]
              simpa using hrl
            · simp; omega
      | true =>
        go_wp2_with fail
        refine HX.out.1.mono ?_
        rintro e w3 ⟨A3, n3, c3, rfl, hl3, hb3, hf3⟩
        have hn3 : n3 ≤ m + 1 := nat_few (by have := HX.out.2.2.2.2; omega) hl3
        have H3 := Lib.hid (show _ ∧ _ ∧ _ from ⟨hl3, HR.out.2.2.2.1.trans (hb3.mono HR.out.2.2.2.1.size), owns_below HR.out.2.1 hb3⟩)
        have hz3 := HR.out.2.2.2.2.1
        have hs3 := hb3.size
        have HF := Lib.hid (show ∀ ad, A3 = some ad → ad.block ≠ w.heap.size from fun ad h => by have := hf3 ad h; omega)
        clear hl3 hb3 hf3
        go_wp2_with fail
        refine (HX.out.2.1 _ H3.out.2.1).mono ?_
        rintro e w4 ⟨rfl, hb4⟩
        have H4 := Lib.hid (show _ ∧ _ ∧ _ from ⟨nat_on H3.out.1 hb4, H3.out.2.1.trans (hb4.mono H3.out.2.1.size), owns_below H3.out.2.2 hb4⟩)
        have hs4 := hb4.size
        clear hb4 H3
        go_wp2_with fail
        refine (from_any 1 (by omega) w4).mono ?_
        rintro e w5 ⟨A5, n5, c5, rfl, hl5, hb5, _⟩
        have hn5 : n5 ≤ 1 := nat_few (by decide) hl5
        have H5 := Lib.hid (show _ ∧ _ ∧ _ ∧ _ from ⟨nat_on H4.out.1 hb5, H4.out.2.1.trans (hb5.mono H4.out.2.1.size), owns_below H4.out.2.2 hb5, hl5⟩)
        have hs5 := hb5.size
        clear hl5 hb5 H4 HF
        go_wp2_with fail
        refine (plus_any A3 A5 n3 c3 n5 c5 (R * 2) 1 w5 H5.out.1 H5.out.2.2.2 (by omega) (by omega)).mono ?_
        rintro e w6 ⟨A6, n6, c6, rfl, hl6, hb6, hf6⟩
        have hn6 : n6 ≤ m + 1 := nat_few (by have := HX.out.2.2.2.2; omega) hl6
        have H6 := Lib.hid (show _ ∧ _ ∧ _ from ⟨hl6, H5.out.2.1.trans (hb6.mono H5.out.2.1.size), owns_below H5.out.2.2.1 hb6⟩)
        have hs6 := hb6.size
        have HF := Lib.hid (show ∀ ad, A6 = some ad → ad.block ≠ w.heap.size from fun ad h => by have := hf6 ad h; omega)
        clear hl6 hb6 hf6 H5
        have hrest := Lib.hid (show 2 * (N / 2 ^ (k + 1) % M) + (N.testBit k).toNat = R * 2 + 1 by rw [HX.out.2.2.1, HX.out.2.2.2.1]; simp; omega)
        go_wp2_with fail
        refine (less_any A6 B n6 c6 m c' (R * 2 + 1) M w6 H6.out.1 (nat_on HL.out.2.1 H6.out.2.1) (by omega) (by omega)).mono ?_
        rintro e w7 ⟨rfl, hb7⟩
        have H7 := Lib.hid (show _ ∧ _ ∧ _ from ⟨nat_on H6.out.1 hb7, H6.out.2.1.trans (hb7.mono H6.out.2.1.size), owns_below H6.out.2.2 hb7⟩)
        have hs7 := hb7.size
        clear hb7 H6
        by_cases hlt : R * 2 + 1 < M
        · have hls : FL.lessR (R * 2 + 1) M = -1 := if_pos hlt
          have hno := FL.parts_no HL.out.2.2.2.1 (by rw [hrest.out]; exact hlt)
          have hinv := HR.out.2.2.1.no HL.out.2.2.2.1 (by rw [hrest.out]; exact hlt)
          rw [hrest.out] at hno
          have HN := Lib.hid (show _ ∧ _ from ⟨hno.1, hinv⟩)
          rw [hls]
          clear hno hinv hls hlt
          go_wp2
          go_roundw
          case measure => simp [intOf]
          case rel => exact ⟨k, _, ds, A6, n6, c6, by omega, rfl, by first | rfl | simp, rfl, Lib.hid ⟨by rw [HN.out.1]; exact H7.out.1, H7.out.2.2, HN.out.2, H7.out.2.1, by omega, HF.out⟩⟩
        · have hls : 0 ≤ FL.lessR (R * 2 + 1) M := by unfold FL.lessR; rw [if_neg hlt]; split <;> omega
          obtain ⟨lv, hlv⟩ : ∃ lv, FL.lessR (R * 2 + 1) M = lv := ⟨_, rfl⟩
          rw [hlv] at hls ⊢
          clear hlv
          have hyes := FL.parts_yes HL.out.2.2.2.1 (by rw [hrest.out]; omega)
          obtain ⟨q, hq⟩ : ∃ q, k / 32 = q := ⟨_, rfl⟩
          obtain ⟨r, hr⟩ : ∃ r, k % 32 = r := ⟨_, rfl⟩
          have hqi : (k : Int) / 32 = (q : Int) := by omega
          have hri : (k : Int) % 32 = (r : Int) := by omega
          have hr32 : r < 32 := by omega
          have hlen := HR.out.2.2.1.1
          rw [HL.out.2.2.1] at hlen
          have hqn : q < n := by omega
          obtain ⟨o, ho⟩ : ∃ o, ds[k / 32]? = some o := ⟨_, List.getElem?_eq_getElem (by omega)⟩
          obtain ⟨hinv, hor⟩ := HR.out.2.2.1.yes HL.out.2.2.2.1 (by rw [hrest.out]; omega) ho
          have bo : o < 2 ^ 32 := HR.out.2.2.1.2.1 o (List.mem_of_getElem? ho)
          rw [hrest.out] at hyes
          rw [hq, hr] at hinv
          rw [hr] at hor
          rw [hq] at ho
          have hp2 : 2 ^ r < 2 ^ 32 := Nat.pow_lt_pow_right (by omega) hr32
          obtain ⟨pw, hpw⟩ : ∃ pw, 2 ^ r = pw := ⟨_, rfl⟩
          have hpi : (2 : Int) ^ r = (pw : Int) := by rw [← hpw]; simp
          rw [hpw] at hp2 hor hinv
          have hsh : IntKind.u32.wrap ((2 : Int) ^ r) = (pw : Int) := by rw [hpi]; exact wraps_u32 _ (by omega) (by omega)
          have ho2 := u32_or o pw bo hp2
          obtain ⟨o2, ho2e⟩ : ∃ o2, o ||| pw = o2 := ⟨_, rfl⟩
          rw [ho2e] at ho2 hinv hor
          have e0 := owns_at H7.out.2.2 encD_len ho (j := 0) rfl
          simp only [Nat.add_zero, Nat.mul_one] at e0
          have f0 := H7.out.2.2.frozenAt q
          have hqs := (H7.out.2.2.lt w.heap.size rfl).2
          have HN := Lib.hid (show _ ∧ _ ∧ _ ∧ _ ∧ _ from ⟨hyes.1, hinv, ho, e0, f0⟩)
          clear hyes hinv ho hlen hq hr hpw hpi ho2e e0 f0
          have i3 : (0 : Int) ≤ (q : Int) := by omega
          have i4 : (q : Int) < (n : Int) := by omega
          go_wp2_with fail
          refine (minus_any A6 B n6 c6 m c' (R * 2 + 1) M w7 H7.out.1 (nat_on HL.out.2.1 H7.out.2.1) (by omega) (by omega)).mono ?_
          rintro e w8 ⟨A8, n8, c8, rfl, hl8, hb8, hf8⟩
          have hown8 := owns_below H7.out.2.2 hb8
          have e0 := owns_at hown8 encD_len HN.out.2.2.1 (j := 0) rfl
          simp only [Nat.add_zero, Nat.mul_one] at e0
          have f0 := hown8.frozenAt q
          have H8 := Lib.hid (show _ ∧ _ ∧ _ from ⟨hl8, hown8, H7.out.2.1.trans (hb8.mono H7.out.2.1.size)⟩)
          have hs8 := hb8.size
          have HF8 := Lib.hid (show ∀ ad, A8 = some ad → ad.block ≠ w.heap.size from fun ad h => by have := hf8 ad h; omega)
          clear hl8 hb8 hown8 hf8
          go_wp2_with (go_quiet (fail))
          go_roundw
          case measure => simp [intOf]
          case rel =>
            have hst := own_stored rfl H8.out.2.2 H8.out.2.1 q o2
            have hrl := lst_set H8.out.1 HF8.out q (.int .u32 o2)
            refine ⟨k, _, _, A8, n8, c8, by omega, rfl, by first | rfl | simp, rfl, Lib.hid ⟨?_, hst.1, HN.out.2.1, hst.2, ?_, HF8.out⟩⟩
            · rw [HN.out.1]
              simpa using hrl
            · simp; omega
end Go.Proofs.YtajaijidecomdaaGreatDoor
