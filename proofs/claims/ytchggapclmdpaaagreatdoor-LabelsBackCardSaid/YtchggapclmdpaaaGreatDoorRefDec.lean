/- The document's Decode: what bytes begin with. -/
import Derived.Test.YtchggapclmdpaaaGreatDoorDec7
namespace Go.Proofs.YtchggapclmdpaaaGreatDoor
open Go.RowKit Go.Lib

theorem drop_two {b : List UInt8} {k : Nat} {b0 b1 : UInt8} {r : List UInt8} (h : b.drop k = b0 :: b1 :: r) : b[k]? = some b0 ∧ b[k + 1]? = some b1 ∧ b.drop (k + 2) = r ∧ b.length = k + 2 + r.length := by
  have h0 : (b.drop k)[0]? = some b0 := by rw [h]; rfl
  have h1 : (b.drop k)[1]? = some b1 := by rw [h]; rfl
  rw [List.getElem?_drop] at h0 h1
  have h2 : (b.drop k).drop 2 = r := by rw [h]; rfl
  rw [List.drop_drop] at h2
  have h3 := congrArg List.length h
  rw [List.length_drop] at h3
  simp at h3
  exact ⟨by simpa using h0, h1, h2, by omega⟩
set_option maxHeartbeats 4000000 in
set_option maxRecDepth 100000 in
theorem next_none (A : Option Addr) (n c k : Nat) (b : List UInt8) (w : World) (hL : Lst encBy 1 w w.heap.size A n b) (hn : n ≤ 1000000) (hk : k ≤ n) (ht : takeB (b.drop k) = none) :
    Calls Tryz.prog 105 #[.slice A n c, .int .i64 k] w fun e w' => e = .returned (.tuple #[.string ⟨#[]⟩, .int .i64 (-1)]) ∧ ∃ q, w' = w.drewN q := by
  by_cases h2 : n < k + 2
  · have i0 : (n : Int) < (k : Int) + 2 := by omega
    clear hL ht
    go_enter Tryz.func105, Tryz.ntmps105
    go_wp2
    exact bodyPost_ret (v := .tuple #[.string ⟨#[]⟩, .int .i64 (-1)]) (by simp [results, Tryz.results105, go_sem]) rfl ⟨rfl, 0, rfl⟩
  · obtain ⟨b0, b1, r, hd⟩ : ∃ b0 b1 r, b.drop k = b0 :: b1 :: r := by
      have h1 : (b.drop k).length = n - k := by rw [List.length_drop, hL.1]
      match h : b.drop k, h1 with
      | [], h1 => simp at h1; omega
      | [_], h1 => simp at h1; omega
      | b0 :: b1 :: r, _ => exact ⟨b0, b1, r, rfl⟩
    rw [hd, takeB_two] at ht
    have hlt : r.length < b0.toNat + 256 * b1.toNat := by
      split at ht
      · assumption
      · cases ht
    obtain ⟨g0, g1, _, gl⟩ := drop_two hd
    have l0 : b0.toNat < 256 := b0.toNat_lt
    have l1 : b1.toNat < 256 := b1.toNat_lt
    obtain ⟨bb, off, x, rfl, hb, hx, hcl⟩ := hL.at (show k < n by omega)
    obtain ⟨b', off', y, e', _, hy, hcl'⟩ := hL.at (show k + 1 < n by omega)
    obtain ⟨rfl, rfl⟩ : bb = b' ∧ off = off' := by simpa using e'
    obtain rfl : b0 = x := by rw [g0] at hx; exact Option.some.inj hx
    obtain rfl : b1 = y := by rw [g1] at hy; exact Option.some.inj hy
    have c0 : w.cell? ⟨bb, off + k, none⟩ = some (.int .u8 b0.toNat) := by simpa using hcl 0 _ rfl
    have c1 : w.cell? ⟨bb, off + (k + 1), none⟩ = some (.int .u8 b1.toNat) := by simpa using hcl' 0 _ rfl
    have i0 : ¬ (n : Int) < (k : Int) + 2 := by omega
    have i1 : (k : Int) < (n : Int) := by omega
    have i2 : (k : Int) + 1 < (n : Int) := by omega
    have i3 : (0 : Int) ≤ (k : Int) := by omega
    have i4 : (0 : Int) ≤ (k : Int) + 1 := by omega
    have i5 : (n : Int) < (k : Int) + 2 + ((b0.toNat : Int) + 256 * (b1.toNat : Int)) := by have := hL.1; omega
    have i6 : ((k : Int) + 1).toNat = k + 1 := by omega
    clear hL hlt hcl hcl' hx hy e' ht hd g0 g1 gl
    go_enter Tryz.func105, Tryz.ntmps105
    go_wp2_with (go_quiet (fail))
    exact bodyPost_ret (v := .tuple #[.string ⟨#[]⟩, .int .i64 (-1)]) (by simp [results, Tryz.results105, go_sem]) rfl ⟨rfl, _, by first | rfl | exact World.drewN_drewN _ _ _⟩
set_option maxHeartbeats 4000000 in
set_option maxRecDepth 100000 in
theorem next_some (A : Option Addr) (n c k : Nat) (b : List UInt8) (w : World) (hL : Lst encBy 1 w w.heap.size A n b) (hn : n ≤ 1000000) (hnc : n ≤ c) (_hc : c ≤ maxLen) (hk : k ≤ n) {t r : List UInt8} (ht : takeB (b.drop k) = some (t, r)) :
    (∃ z : Nat, z ≤ n ∧ k ≤ z ∧ b.drop z = r ∧ Calls Tryz.prog 105 #[.slice A n c, .int .i64 k] w fun e w' => e = .returned (.tuple #[.string ⟨t.toArray⟩, .int .i64 z]) ∧ ∃ q, w' = w.drewN q) := by
  obtain ⟨b0, b1, s, hd⟩ : ∃ b0 b1 s, b.drop k = b0 :: b1 :: s := by
    match h : b.drop k, ht with
    | [], ht => cases ht
    | [_], ht => cases ht
    | b0 :: b1 :: s, _ => exact ⟨b0, b1, s, rfl⟩
  rw [hd, takeB_two] at ht
  split at ht
  · cases ht
  · rename_i hm
    simp only [Option.some.injEq, Prod.mk.injEq] at ht
    obtain ⟨rfl, rfl⟩ := ht
    obtain ⟨g0, g1, g2, gl⟩ := drop_two hd
    have l0 : b0.toNat < 256 := b0.toNat_lt
    have l1 : b1.toNat < 256 := b1.toNat_lt
    have hbl := hL.1
    obtain ⟨bb, off, x, rfl, hb, hx, hcl⟩ := hL.at (show k < n by omega)
    obtain ⟨b', off', y, e', _, hy, hcl'⟩ := hL.at (show k + 1 < n by omega)
    obtain ⟨rfl, rfl⟩ : bb = b' ∧ off = off' := by simpa using e'
    obtain rfl : b0 = x := by rw [g0] at hx; exact Option.some.inj hx
    obtain rfl : b1 = y := by rw [g1] at hy; exact Option.some.inj hy
    have c0 : w.cell? ⟨bb, off + k, none⟩ = some (.int .u8 b0.toNat) := by simpa using hcl 0 _ rfl
    have c1 : w.cell? ⟨bb, off + (k + 1), none⟩ = some (.int .u8 b1.toNat) := by simpa using hcl' 0 _ rfl
    obtain ⟨m, hmm⟩ : ∃ m, b0.toNat + 256 * b1.toNat = m := ⟨_, rfl⟩
    have hmi : (b0.toNat : Int) + 256 * (b1.toNat : Int) = (m : Int) := by omega
    rw [hmm] at hm ⊢
    refine ⟨k + 2 + m, by omega, by omega, by rw [← g2, List.drop_drop], ?_⟩
    have h2 := (hL.drop_ (k := k + 2) (by omega)).take (k := m) (by omega)
    rw [g2] at h2
    have i0 : ¬ (n : Int) < (k : Int) + 2 := by omega
    have i1 : (k : Int) < (n : Int) := by omega
    have i2 : (k : Int) + 1 < (n : Int) := by omega
    have i3 : (0 : Int) ≤ (k : Int) := by omega
    have i4 : (0 : Int) ≤ (k : Int) + 1 := by omega
    have i5 : ¬ (n : Int) < (k : Int) + 2 + (m : Int) := by omega
    have i6 : ((k : Int) + 1).toNat = k + 1 := by omega
    have i7 : (0 : Int) ≤ (k : Int) + 2 := by omega
    have i8 : (k : Int) + 2 ≤ (k : Int) + 2 + (m : Int) := by omega
    have i9 : (k : Int) + 2 + (m : Int) ≤ (c : Int) := by omega
    have hz : c = k + 2 → m = 0 := fun e => by omega
    rw [Nat.mul_one] at h2
    have HL := Lib.hid (show _ ∧ _ from ⟨h2, hz⟩)
    clear hL hcl hcl' hx hy e' hd g0 g1 g2 gl hmm h2 hbl hz
    by_cases k1 : c = k + 2
    · have hm0 := HL.out.2 k1
      subst hm0
      have k3 : c - (k + 2) = 0 := by omega
      have hcv : ∀ q, (convert 75 9 (.slice (some ⟨bb, off, none⟩) 0 0)).run Tryz.prog (w.drewN q) = .ok (.string ⟨#[]⟩) (w.drewN q) := fun q => bytes_text (B := 0) (l := []) ⟨rfl, fun h => absurd h (by omega)⟩
      clear k1
      go_enter Tryz.func105, Tryz.ntmps105
      go_wp2_with (go_quiet (fail))
      exact bodyPost_ret (v := .tuple #[.string ⟨#[]⟩, .int .i64 ((k : Int) + 2)]) (by simp [results, Tryz.results105, go_sem]) rfl ⟨by simp, _, by first | rfl | exact World.drewN_drewN _ _ _⟩
    · have hcv : ∀ q, (convert 75 9 (.slice (some ⟨bb, off + (k + 2), none⟩) m (c - (k + 2)))).run Tryz.prog (w.drewN q) = .ok (.string ⟨(s.take m).toArray⟩) (w.drewN q) := fun q => bytes_text (HL.out.1.keep fun _ _ => rfl)
      go_enter Tryz.func105, Tryz.ntmps105
      go_wp2_with (go_quiet (fail))
      exact bodyPost_ret (v := .tuple #[.string ⟨(s.take m).toArray⟩, .int .i64 ((k : Int) + 2 + m)]) (by simp [results, Tryz.results105, go_sem]) rfl ⟨by simp, _, by first | rfl | exact World.drewN_drewN _ _ _⟩
theorem next_bad (A : Option Addr) (n c k : Nat) (b : List UInt8) (w W : World) (hL : Lst encBy 1 w w.heap.size A n b) (hb : Below w.heap.size w W) (hn : n ≤ 1000000) (hk : k ≤ n) (ht : takeB (b.drop k) = none) :
    Calls Tryz.prog 105 #[.slice A n c, .int .i64 k] W fun e w' => e = .returned (.tuple #[.string ⟨#[]⟩, .int .i64 (-1)]) ∧ Below W.heap.size W w' :=
  (next_none A n c k b W (hL.on hb) hn hk ht).mono fun _ _ ⟨h1, q, hq⟩ => ⟨h1, hq ▸ below_drewN (Below.refl _ _) q⟩
theorem next_good (A : Option Addr) (n c k : Nat) (b : List UInt8) (w : World) (hL : Lst encBy 1 w w.heap.size A n b) (hn : n ≤ 1000000) (hnc : n ≤ c) (hc : c ≤ maxLen) (hk : k ≤ n) {t r : List UInt8} (ht : takeB (b.drop k) = some (t, r)) :
    ∃ z : Nat, z ≤ n ∧ k ≤ z ∧ b.drop z = r ∧ ∀ W, Below w.heap.size w W → Calls Tryz.prog 105 #[.slice A n c, .int .i64 k] W fun e w' => e = .returned (.tuple #[.string ⟨t.toArray⟩, .int .i64 z]) ∧ Below W.heap.size W w' := by
  obtain ⟨z, h1, h2, h3, _⟩ := next_some A n c k b w hL hn hnc hc hk ht
  refine ⟨z, h1, h2, h3, fun W hW => ?_⟩
  obtain ⟨z', h1', h2', h3', hc'⟩ := next_some A n c k b W (hL.on hW) hn hnc hc hk ht
  have hz : z' = z := by
    have e1 := congrArg List.length h3
    have e2 := congrArg List.length h3'
    rw [List.length_drop] at e1 e2
    have := hL.1
    omega
  subst hz
  exact hc'.mono fun e w' ⟨h1, q, hq⟩ => ⟨h1, hq ▸ below_drewN (Below.refl _ _) q⟩
set_option maxHeartbeats 8000000 in
set_option maxRecDepth 100000 in
theorem refDecode_any (A : Option Addr) (n c : Nat) (b : List UInt8) (w : World) (hL : Lst encBy 1 w w.heap.size A n b) (hnc : n ≤ c) (hc : c ≤ maxLen) (hbig : n ≤ 1000000) :
    Calls Tryz.prog 35 #[.slice A n c] w (DecPost b w) := by
  have hc' : c ≤ 9223372036854775807 := hc
  cases hbe : b with
  | nil =>
    subst hbe
    have hn : n = 0 := by have := hL.1; simpa using this.symm
    subst hn
    clear hL
    go_enter Tryz.func35, Tryz.ntmps35
    go_wp2
    exact bodyPost_ret (v := .tuple #[.slice none 0 0, .int .i64 0, .int .u16 70]) (by simp [results, Tryz.results35, go_sem]) rfl (decPost_bad rfl (Below.refl _ _))
  | cons h r =>
    have hn : r.length + 1 = n := by have := hL.1; rw [hbe] at this; simpa using this
    have h256 : h.toNat < 256 := h.toNat_lt
    obtain ⟨bb, off, x, rfl, hb, hx, hcl⟩ := hL.at (show 0 < n by omega)
    obtain rfl : h = x := by rw [hbe] at hx; simpa using hx
    have c0 : w.cell? ⟨bb, off, none⟩ = some (.int .u8 h.toNat) := by simpa using hcl 0 _ rfl
    have i0 : ((n : Int) == 0) = false := by rw [beq_eq_false_iff_ne]; omega
    have i1 : (0 : Int) < (n : Int) := by omega
    obtain ⟨H, hH⟩ : ∃ H, h.toNat = H := ⟨_, rfl⟩
    rw [hH] at c0 h256
    obtain ⟨D, hD⟩ : ∃ D, decL H r [] = D := ⟨_, rfl⟩
    have hbad : D = none → decR (h :: r) = ([], 0, 70) := fun e => by
      unfold decR
      simp only [hH, hD, e]
    have hgood : ∀ l rest, D = some (l, rest) → decR (h :: r) = if checkE l = 0 then (l, (h :: r).length - rest.length, 0) else ([], 0, 70) := fun l rest e => by
      unfold decR
      simp only [hH, hD, e]
    have hd1 : b.drop 1 = r := by rw [hbe]; rfl
    have HD := Lib.hid (show _ ∧ _ ∧ _ from ⟨hD, hbad, hgood⟩)
    have HL := Lib.hid (show _ ∧ _ ∧ _ ∧ _ ∧ _ from ⟨hL, hn, hbe, hd1, hb⟩)
    have hc0 : ∀ W, Below w.heap.size w W → W.cell? ⟨bb, off, none⟩ = some (.int .u8 H) := fun W hW => (hW.cell (p := ⟨bb, off, none⟩) hb).trans c0
    have HC0 := Lib.hid hc0
    clear hD hbad hgood hn hcl hx hL hH hbe hd1 hc0 hb
    go_enter Tryz.func35, Tryz.ntmps35
    go_wp2
    clear c0 i0
    go_loopw [5, 6, 7] (fun lv av iv wr => ∃ (k m : Nat) (acc : List Lb), k ≤ H ∧ iv = .int .i64 k ∧ av = .int .i64 m ∧ m ≤ n ∧ Hid (wr.ownsRow w.heap.size 94 2 lv k (acc.flatMap Lb.cells) ∧ Below w.heap.size w wr ∧ decL (H - k) (b.drop m) acc = D ∧ acc.length = k)) (fun _ _ iv _ => H - (intOf iv).toNat)
    case atStart => exact ⟨0, 1, [], Nat.zero_le _, rfl, rfl, by omega, Lib.hid ⟨World.ownsRow_nil _ _ _ _, Below.refl _ _, by rw [HL.out.2.2.2.1]; exact HD.out.1, rfl⟩⟩
    case round =>
      obtain ⟨k, m, acc, hk, rfl, rfl, hm, HR⟩ := hrel
      have d0 := HC0.out wr HR.out.2.1
      by_cases hlt : k < H
      · have j1 : (k : Int) < (H : Int) := by omega
        have hdec : H - k = (H - (k + 1)) + 1 := by omega
        cases ht1 : takeB (b.drop m) with
        | none =>
          have HP := Lib.hid (HD.out.2.1 (by rw [← HR.out.2.2.1, hdec]; exact decL_none1 ht1))
          have HT := Lib.hid (next_bad _ n c m b w wr HL.out.1 HR.out.2.1 hbig hm ht1)
          clear ht1 hdec
          go_wp2_with (go_at_call 105; refine HT.out.mono ?_; rintro e w1 ⟨rfl, hb1⟩; have B1 := Lib.hid (HR.out.2.1.trans (hb1.mono HR.out.2.1.size)); clear hb1)
          exact bodyPost_ret (v := .tuple #[.slice none 0 0, .int .i64 0, .int .u16 70]) (by simp [results, Tryz.results35, go_sem]) rfl (decPost_bad HP.out B1.out)
        | some tr =>
          obtain ⟨t1, r1⟩ := tr
          obtain ⟨z1, hz1n, hz1m, hz1d, hz1c⟩ := next_good _ n c m b w HL.out.1 hbig hnc hc hm ht1
          have q1 : ¬ (z1 : Int) < 0 := by omega
          cases ht2 : takeB r1 with
          | none =>
            have HP := Lib.hid (HD.out.2.1 (by rw [← HR.out.2.2.1, hdec]; exact decL_none2 ht1 ht2))
            have HT2 := Lib.hid (show _ ∧ _ from ⟨hz1c, fun W hW => next_bad _ n c z1 b w W HL.out.1 hW hbig hz1n (by rw [hz1d]; exact ht2)⟩)
            clear ht1 ht2 hdec hz1c hz1d
            go_wp2_with (first
              | (go_at_call 105; refine (HT2.out.2 _ B1.out).mono ?_; rintro e w2 ⟨rfl, hb2⟩; have B2 := Lib.hid (B1.out.trans (hb2.mono B1.out.size)); clear hb2)
              | (go_at_call 105; refine (HT2.out.1 _ HR.out.2.1).mono ?_; rintro e w1 ⟨rfl, hb1⟩; have B1 := Lib.hid (HR.out.2.1.trans (hb1.mono HR.out.2.1.size)); clear hb1))
            exact bodyPost_ret (v := .tuple #[.slice none 0 0, .int .i64 0, .int .u16 70]) (by simp [results, Tryz.results35, go_sem]) rfl (decPost_bad HP.out B2.out)
          | some tr2 =>
            obtain ⟨t2, r2⟩ := tr2
            obtain ⟨z2, hz2n, hz2m, hz2d, hz2c⟩ := next_good _ n c z1 b w HL.out.1 hbig hnc hc hz1n (by rw [hz1d]; exact ht2)
            have q2 : ¬ (z2 : Int) < 0 := by omega
            have HP : Hid (decL (H - (k + 1)) (b.drop z2) (acc ++ [⟨⟨t1.toArray⟩, ⟨t2.toArray⟩⟩]) = D) := Lib.hid (by rw [hz2d, ← HR.out.2.2.1, hdec]; exact (decL_some ht1 ht2).symm)
            have HT2 := Lib.hid (show _ ∧ _ from ⟨hz1c, hz2c⟩)
            clear ht1 ht2 hdec hz1c hz1d hz2c hz2d
            obtain ⟨i0, hi, hz0, hz1, hz2⟩ := info_parts Tryz.infoLabel
            go_wp2_with (first
              | (at_builtin; refine wpList_append_own _ rfl _ _ 22 rfl w.heap.size 94 i0 _ 2 32 Tryz.underlying22 hi hz0 hz1 hz2 rfl (by omega) _ k (acc.flatMap Lb.cells) rfl (H2.out.2.alloc _) ⟨w2.heap.size, 0, none⟩ 1 1 [.string ⟨t1.toArray⟩, .string ⟨t2.toArray⟩] rfl rfl (cells_newL w2 [.string ⟨t1.toArray⟩, .string ⟨t2.toArray⟩] _) (by simp [Value.oneCell']) (by unfold maxLen; omega) (by omega) (by have := H2.out.1.size; simp; omega) ?_)
              | (go_at_call 105; refine (HT2.out.2 _ H1.out.1).mono ?_; rintro e w2 ⟨rfl, hb2⟩; have H2 := Lib.hid (show _ ∧ _ from ⟨H1.out.1.trans (hb2.mono H1.out.1.size), owns_below H1.out.2 hb2⟩); clear hb2)
              | (go_at_call 105; refine (HT2.out.1 _ HR.out.2.1).mono ?_; rintro e w1 ⟨rfl, hb1⟩; have H1 := Lib.hid (show _ ∧ _ from ⟨HR.out.2.1.trans (hb1.mono HR.out.2.1.size), owns_below HR.out.1 hb1⟩); clear hb1))
            intro v5 w5 ho5 hg5 _
            have hb5 := (H2.out.1.alloc H2.out.1.size (.cells #[.string ⟨t1.toArray⟩, .string ⟨t2.toArray⟩] 94)).grown hg5 (by have := H2.out.1.size; simp; omega) (fun j hj => (H2.out.2.lt j hj).1)
            have H5 := Lib.hid (show _ ∧ w5.ownsRow w.heap.size 94 2 v5 (k + 1) ((acc ++ [(⟨⟨t1.toArray⟩, ⟨t2.toArray⟩⟩ : Lb)]).flatMap Lb.cells) from ⟨hb5, by rw [List.flatMap_append, List.flatMap_singleton]; exact ho5⟩)
            clear ho5 hg5 hb5
            go_wp2
            go_roundw
            case measure => simp [intOf]; omega
            case rel => exact ⟨k + 1, z2, _, hlt, by simp, rfl, hz2n, Lib.hid ⟨H5.out.2, H5.out.1, HP.out, by rw [List.length_append, HR.out.2.2.2]; rfl⟩⟩
      · obtain rfl : k = H := by omega
        have hDs : D = some (acc, b.drop m) := by
          rw [← HR.out.2.2.1, Nat.sub_self]
          rfl
        have hdr := HD.out.2.2 acc (b.drop m) hDs
        obtain ⟨A5, c5, rfl, hL5, _, _, _⟩ := own_arg HR.out.1 HR.out.2.2.2
        obtain ⟨CE, hCE⟩ : ∃ CE, checkE acc = CE := ⟨_, rfl⟩
        have hck := refCheck_any A5 k c5 acc wr hL5 (by omega)
        rw [hCE] at hck hdr
        have j1 : ¬ (k : Int) < (k : Int) := by omega
        have HC := Lib.hid (show _ ∧ _ from ⟨hck, hdr⟩)
        clear hck hdr hCE hDs hL5
        by_cases h0 : CE = 0
        · subst h0
          go_wp2_with (go_at_call 26; refine HC.out.1.mono ?_; rintro e w5 ⟨rfl, hb5⟩; have H5 := Lib.hid (show _ ∧ _ from ⟨owns_below HR.out.1 hb5, HR.out.2.1.trans (hb5.mono HR.out.2.1.size)⟩); clear hb5)
          have hdr := by first | exact HC.out.2.trans (if_pos rfl) | exact HC.out.2.trans (if_pos trivial)
          have e1 : ((h :: r).length - (b.drop m).length : Nat) = m := by
            rw [List.length_cons, List.length_drop, HL.out.1.1]
            have := HL.out.2.1
            omega
          rw [e1] at hdr
          refine bodyPost_ret (v := .tuple #[.slice A5 k c5, .int .i64 (m : Int), .int .u16 0]) (by simp [results, Tryz.results35, go_sem]) rfl ?_
          unfold DecPost
          rw [hdr]
          exact ⟨_, rfl, by rw [HR.out.2.2.2]; exact H5.out.1, H5.out.2⟩
        · have hne : (CE != 0) = true := by rw [bne_iff_ne]; exact h0
          go_wp2_with (go_at_call 26; refine HC.out.1.mono ?_; rintro e w5 ⟨rfl, hb5⟩; have H5 := Lib.hid (HR.out.2.1.trans (hb5.mono HR.out.2.1.size)); clear hb5)
          have hdr := HC.out.2
          rw [if_neg h0] at hdr
          exact bodyPost_ret (v := .tuple #[.slice none 0 0, .int .i64 0, .int .u16 70]) (by simp [results, Tryz.results35, go_sem]) rfl (decPost_bad hdr H5.out)
end Go.Proofs.YtchggapclmdpaaaGreatDoor
