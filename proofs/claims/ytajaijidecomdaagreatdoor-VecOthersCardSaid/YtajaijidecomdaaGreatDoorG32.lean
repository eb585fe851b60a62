/- The document's numbers: their bits, their parts, Int. num.Neg, Abs, IsInf, zero. vec.Negative: the signs turned. -/
import Derived.Test.YtajaijidecomdaaGreatDoorNtH
import Derived.Test.YtajaijidecomdaaGreatDoorG23
import Derived.Test.YtajaijidecomdaaGreatDoorG24
import Derived.Test.YtajaijidecomdaaGreatDoorG20
import Derived.Deep.RegionHeld3
namespace Go.Proofs.YtajaijidecomdaaGreatDoor
open Go.RowKit Go.Lib

theorem u64_andNot (a : Nat) (ha : a < 2 ^ 64) : bits .andNot .u64 (a : Int) 9223372036854775808 = ((a % 2 ^ 63 : Nat) : Int) := by
  have h2 : (BitVec.ofNat 64 a &&& ~~~(BitVec.ofInt 64 9223372036854775808)).toNat = a % 2 ^ 63 := by
    rw [show ~~~(BitVec.ofInt 64 9223372036854775808) = BitVec.ofNat 64 (2 ^ 63 - 1) by decide, BitVec.toNat_and, BitVec.toNat_ofNat, BitVec.toNat_ofNat, Nat.mod_eq_of_lt ha, Nat.mod_eq_of_lt (by decide), Nat.and_two_pow_sub_one_eq_mod]
  show IntKind.u64.wrap (((BitVec.ofInt 64 (a : Int) &&& ~~~(BitVec.ofInt 64 9223372036854775808)).toNat : Nat) : Int) = _
  rw [BitVec.ofInt_natCast, h2]
  exact wraps_u64 _ (by omega) (by omega)
theorem xor_top (b : Nat) (hb : b < 2 ^ 63) : b ^^^ 2 ^ 63 = 2 ^ 63 + b := by
  apply Nat.eq_of_testBit_eq
  intro i
  rw [Nat.testBit_xor, Nat.testBit_two_pow]
  rcases Nat.lt_trichotomy i 63 with h | h | h
  · rw [decide_eq_false (by omega), Nat.testBit_two_pow_add_gt (by omega)]; simp
  · subst h; rw [decide_eq_true rfl, Nat.testBit_two_pow_add_eq]; simp
  · have h1 : 2 ^ 64 ≤ 2 ^ i := Nat.pow_le_pow_right (by omega) h
    rw [decide_eq_false (by omega), Nat.testBit_lt_two_pow (by omega : b < 2 ^ i), Nat.testBit_lt_two_pow (by omega : 2 ^ 63 + b < 2 ^ i)]; rfl
theorem u64_xor (a : Nat) (ha : a < 2 ^ 64) : bits .xor .u64 (a : Int) 9223372036854775808 = ((if 2 ^ 63 ≤ a then a - 2 ^ 63 else a + 2 ^ 63 : Nat) : Int) := by
  have h1 : a ^^^ 2 ^ 63 = if 2 ^ 63 ≤ a then a - 2 ^ 63 else a + 2 ^ 63 := by
    by_cases h : 2 ^ 63 ≤ a
    · rw [if_pos h]
      have h2 := xor_top (a - 2 ^ 63) (by omega)
      rw [Nat.add_sub_cancel' h] at h2
      have h3 : (a - 2 ^ 63) ^^^ 2 ^ 63 ^^^ 2 ^ 63 = a - 2 ^ 63 := by rw [Nat.xor_assoc, Nat.xor_self, Nat.xor_zero]
      rw [h2] at h3
      exact h3
    · rw [if_neg h, xor_top a (by omega), Nat.add_comm]
  have hlt : (if 2 ^ 63 ≤ a then a - 2 ^ 63 else a + 2 ^ 63) < 2 ^ 64 := by split <;> omega
  have h2 : (BitVec.ofNat 64 a ^^^ BitVec.ofInt 64 9223372036854775808).toNat = if 2 ^ 63 ≤ a then a - 2 ^ 63 else a + 2 ^ 63 := by
    rw [show BitVec.ofInt 64 9223372036854775808 = BitVec.ofNat 64 (2 ^ 63) by decide, BitVec.toNat_xor, BitVec.toNat_ofNat, BitVec.toNat_ofNat, Nat.mod_eq_of_lt ha, Nat.mod_eq_of_lt (by decide), h1]
  show IntKind.u64.wrap (((BitVec.ofInt 64 (a : Int) ^^^ BitVec.ofInt 64 9223372036854775808).toNat : Nat) : Int) = _
  rw [BitVec.ofInt_natCast, h2]
  exact wraps_u64 _ (by omega) (by omega)
set_option maxHeartbeats 1000000 in
theorem rIsNaN_any (a : Nat) (ha : a < 2 ^ 64) (w : World) : Calls Tryz.prog 120 #[.int .u64 a] w fun e w' => e = .returned (.bool (FL.isNaN a)) ∧ w' = w := by
  have h := u64_andNot a ha
  unfold FL.isNaN
  obtain ⟨x, hx⟩ : ∃ x, a % 2 ^ 63 = x := ⟨_, rfl⟩
  rw [hx] at h ⊢
  obtain ⟨t, ht⟩ : ∃ t, decide (FL.infR < x) = t := ⟨_, rfl⟩
  have d : decide ((9218868437227405312 : Int) < (x : Int)) = t := by rw [← ht, decide_eq_decide]; unfold FL.infR; omega
  have d2 : decide (9218868437227405312 < x) = t := by rw [← ht, decide_eq_decide]; unfold FL.infR; omega
  rw [ht]
  clear ht hx
  go_enter Tryz.func120, Tryz.ntmps120
  go_wp2
  go_ret
  exact ⟨rfl, rfl⟩
set_option maxHeartbeats 1000000 in
theorem rIsInf_any (a : Nat) (ha : a < 2 ^ 64) (w : World) : Calls Tryz.prog 121 #[.int .u64 a] w fun e w' => e = .returned (.bool (FL.isInf a)) ∧ w' = w := by
  have h := u64_andNot a ha
  unfold FL.isInf
  obtain ⟨x, hx⟩ : ∃ x, a % 2 ^ 63 = x := ⟨_, rfl⟩
  rw [hx] at h ⊢
  obtain ⟨t, ht⟩ : ∃ t, decide (x = FL.infR) = t := ⟨_, rfl⟩
  have d : ((x : Int) == 9218868437227405312) = t := by
    rw [← ht]
    show decide ((x : Int) = 9218868437227405312) = _
    rw [decide_eq_decide]; unfold FL.infR; omega
  rw [ht]
  clear ht hx
  go_enter Tryz.func121, Tryz.ntmps121
  go_wp2
  go_ret
  exact ⟨rfl, rfl⟩
set_option maxHeartbeats 1000000 in
theorem rNought_any (a : Nat) (ha : a < 2 ^ 64) (w : World) : Calls Tryz.prog 128 #[.int .u64 a] w fun e w' => e = .returned (.bool (FL.nought a)) ∧ w' = w := by
  have h := u64_andNot a ha
  unfold FL.nought
  obtain ⟨x, hx⟩ : ∃ x, a % 2 ^ 63 = x := ⟨_, rfl⟩
  rw [hx] at h ⊢
  obtain ⟨t, ht⟩ : ∃ t, decide (x = 0) = t := ⟨_, rfl⟩
  have d : ((x : Int) == 0) = t := by
    rw [← ht]
    show decide ((x : Int) = 0) = _
    rw [decide_eq_decide]; omega
  rw [ht]
  clear ht hx
  go_enter Tryz.func128, Tryz.ntmps128
  go_wp2
  go_ret
  exact ⟨rfl, rfl⟩
set_option maxHeartbeats 1000000 in
theorem rNeg0_any (a : Nat) (ha : a < 2 ^ 64) (w : World) : Calls Tryz.prog 123 #[.int .u64 a] w fun e w' => e = .returned (.bool (FL.neg0 a)) ∧ w' = w := by
  have hs := u64_sign a ha
  unfold FL.neg0
  obtain ⟨t, ht⟩ : ∃ t, decide (2 ^ 63 ≤ a) = t := ⟨_, rfl⟩
  rw [ht] at hs ⊢
  clear ht
  go_enter Tryz.func123, Tryz.ntmps123
  go_wp2
  go_ret
  exact ⟨rfl, rfl⟩
theorem rInf_any (s : Bool) (w : World) : Calls Tryz.prog 129 #[.bool s] w fun e w' => e = .returned (.int .u64 (FL.infOf s)) ∧ w' = w := by
  cases s
  all_goals
    go_enter Tryz.func129, Tryz.ntmps129
    go_wp2
    go_ret
    exact ⟨rfl, rfl⟩
set_option maxHeartbeats 1000000 in
theorem rNeg_any (a : Nat) (ha : a < 2 ^ 64) (w : World) : Calls Tryz.prog 109 #[.int .u64 a] w fun e w' => e = .returned (.int .u64 (FL.negR a)) ∧ w' = w := by
  have hN := fun w => rIsNaN_any a ha w
  have h := u64_xor a ha
  have hr : FL.negR a = if FL.isNaN a then FL.theNaN else (if 2 ^ 63 ≤ a then a - 2 ^ 63 else a + 2 ^ 63) := rfl
  rw [hr]
  obtain ⟨x, hx⟩ : ∃ x, (if 2 ^ 63 ≤ a then a - 2 ^ 63 else a + 2 ^ 63) = x := ⟨_, rfl⟩
  rw [hx] at h ⊢
  clear hr hx
  cases hn : FL.isNaN a
  all_goals
    rw [hn] at hN
    first | rw [if_pos rfl] | rw [if_neg (by decide)]
    clear hn
    go_enter Tryz.func109, Tryz.ntmps109
    go_wp2_with (go_at_call 120; refine (hN _).mono ?_; rintro e w' ⟨rfl, rfl⟩)
    go_ret
    exact ⟨rfl, rfl⟩
set_option maxHeartbeats 1000000 in
theorem rAbs_any (a : Nat) (ha : a < 2 ^ 64) (w : World) : Calls Tryz.prog 137 #[.int .u64 a] w fun e w' => e = .returned (.int .u64 (FL.absR a)) ∧ w' = w := by
  have hN := fun w => rIsNaN_any a ha w
  have h := u64_andNot a ha
  unfold FL.absR
  obtain ⟨x, hx⟩ : ∃ x, a % 2 ^ 63 = x := ⟨_, rfl⟩
  rw [hx] at h ⊢
  clear hx
  cases hn : FL.isNaN a
  all_goals
    rw [hn] at hN
    first | rw [if_pos rfl] | rw [if_neg (by decide)]
    clear hn
    go_enter Tryz.func137, Tryz.ntmps137
    go_wp2_with (go_at_call 120; refine (hN _).mono ?_; rintro e w' ⟨rfl, rfl⟩)
    go_ret
    exact ⟨rfl, rfl⟩
set_option maxHeartbeats 2000000 in
theorem rOpen_any (a : Nat) (ha : a < 2 ^ 64) (w : World) : Calls Tryz.prog 130 #[.int .u64 a] w fun e w' => e = .returned (.tuple #[.int .u64 (FL.openM a), .int .i64 (FL.openE a)]) ∧ w' = w := by
  obtain ⟨s, hs⟩ : ∃ s, a / 2 ^ 52 = s := ⟨_, rfl⟩
  have hsl : s < 4096 := by omega
  have h1 : (a : Int) / 4503599627370496 = (s : Int) := by omega
  have h2 := (bits_nat .u64 64 (by decide) wraps_u64 s (2 ^ 11 - 1) (by omega) (by decide)).1
  rw [Nat.and_two_pow_sub_one_eq_mod] at h2
  have h3 := (bits_nat .u64 64 (by decide) wraps_u64 a (2 ^ 52 - 1) ha (by decide)).1
  rw [Nat.and_two_pow_sub_one_eq_mod] at h3
  unfold FL.openM FL.openE
  rw [hs]
  obtain ⟨x, hx⟩ : ∃ x, s % 2048 = x := ⟨_, rfl⟩
  obtain ⟨f, hf⟩ : ∃ f, a % 2 ^ 52 = f := ⟨_, rfl⟩
  have hfl : f < 2 ^ 52 := by omega
  have hxl : x < 2048 := by omega
  have h2' : bits .and .u64 (s : Int) 2047 = (x : Int) := by rw [← hx]; exact h2
  have h3' : bits .and .u64 (a : Int) 4503599627370495 = (f : Int) := by rw [← hf]; exact h3
  have h4 := or64 (2 ^ 52) f (by decide) (by omega)
  have h4e : 2 ^ 52 ||| f = 2 ^ 52 + f := by
    have := Nat.two_pow_add_eq_or_of_lt hfl 1
    rw [Nat.mul_one] at this
    exact this.symm
  rw [h4e] at h4
  obtain ⟨g, hg⟩ : ∃ g, 2 ^ 52 + f = g := ⟨_, rfl⟩
  rw [hg] at h4
  have h4' : bits .or .u64 4503599627370496 (f : Int) = (g : Int) := by rw [← h4]; rfl
  rw [hx, hf, hg]
  clear h2 h3 h4 h4e hg hf hx hs ha hfl
  by_cases h0 : x = 0
  · subst h0
    rw [if_pos rfl, if_pos rfl]
    clear h4'
    go_enter Tryz.func130, Tryz.ntmps130
    go_wp2
    exact bodyPost_ret (by simp [results, Tryz.results130, go_sem]) rfl ⟨rfl, rfl⟩
  · rw [if_neg h0, if_neg h0]
    have hz : ((x : Int) == 0) = false := beq_eq_false_iff_ne.2 (by omega)
    go_enter Tryz.func130, Tryz.ntmps130
    go_wp2
    exact bodyPost_ret (by simp [results, Tryz.results130, go_sem]) rfl ⟨rfl, rfl⟩
end Go.Proofs.YtajaijidecomdaaGreatDoor
namespace Go.Proofs.YtajaijidecomdaaGreatDoor
open Go.RowKit Go.Lib

theorem bits_neg (a : Nat) (ha : a < 2 ^ 64) : (if FL.isNaN (if 2 ^ 63 ≤ a then a - 2 ^ 63 else a + 2 ^ 63) then FL.theNaN else (if 2 ^ 63 ≤ a then a - 2 ^ 63 else a + 2 ^ 63)) = FL.negR a := by
  have h : FL.isNaN (if 2 ^ 63 ≤ a then a - 2 ^ 63 else a + 2 ^ 63) = FL.isNaN a := by
    unfold FL.isNaN
    congr 2
    split <;> omega
  rw [h]; rfl
theorem numNeg_any (a : UInt64) (w : World) : Calls Tryz.prog 104 #[.int .u64 a.toNat] w fun e w' => e = .returned (.int .u64 (FL.negU a).toNat) ∧ w' = w := by
  have hx := u64_xor a.toNat a.toNat_lt
  have hof := fun a w => of_any a w
  have hlt : (if 2 ^ 63 ≤ a.toNat then a.toNat - 2 ^ 63 else a.toNat + 2 ^ 63) < 2 ^ 64 := by have := a.toNat_lt; split <;> omega
  have hb := fun w => bits_any _ hlt w
  rw [bits_neg a.toNat a.toNat_lt, ← FL.negU_nat] at hb
  generalize (if 2 ^ 63 ≤ a.toNat then a.toNat - 2 ^ 63 else a.toNat + 2 ^ 63) = x at hx hb
  generalize (FL.negU a).toNat = r at hb ⊢
  clear hlt
  go_enter Tryz.func104, Tryz.ntmps104
  go_wp2_with (first | (go_at_call 166; refine (hof _ _).mono ?_; rintro e w' ⟨rfl, rfl⟩) | (go_at_call 119; refine (hb _).mono ?_; rintro e w' ⟨rfl, rfl⟩))
  go_ret
  exact ⟨rfl, rfl⟩
end Go.Proofs.YtajaijidecomdaaGreatDoor
namespace Go.Proofs.YtajaijidecomdaaGreatDoor
open Go.RowKit Go.Lib

def negF (a _b : UInt64) : UInt64 × Bool := (FL.negU a, true)
theorem encTx_at {W W0 : World} (hb : Below W.heap.size W W0) : Lst encTx 1 (W0.alloc (.cells #[.string nameT] 9)) (W0.alloc (.cells #[.string nameT] 9)).heap.size (some ⟨W0.heap.size, 0, none⟩) 1 [nameT] := encTx_name W0
theorem src_box {w w4 : World} {A : Option Addr} {m c B : Nat} {R : List Lb} {y : UInt64} (ho : w4.ownsRow B 104 2 (.slice A m c) m (R.flatMap Lb.cells)) (hB : w.heap.size ≤ B) (hf : Fine R) (o : Obj) : Src w (w4.alloc o) ⟨A, m, c, R, y⟩ :=
  .inr ⟨(owns_base ho hB).alloc o, hf⟩
set_option maxHeartbeats 8000000 in
set_option maxRecDepth 100000 in
theorem vecNegative_any (A : Option Addr) (n c : Nat) (es : List Ev) (w : World) (hE : Els w w.heap.size A n c es) :
    Calls Tryz.prog 30 #[.slice A n c] w (SortPost (numOut negF true 0 false (es.map Ev.el)) w) := by
  have hn := hE.few
  have hln := hE.lst.1
  have HE := Lib.hid hE
  obtain ⟨i0, hi, hz0, hz1, hz2⟩ := info_parts Tryz.infoElem
  have HI := Lib.hid (show _ ∧ _ ∧ _ ∧ _ from ⟨hi, hz0, hz1, hz2⟩)
  clear hi hz0 hz1 hz2 hE
  go_enter Tryz.func30, Tryz.ntmps30
  go_wp2
  go_loopw [3, 8] (fun v iv wr => ∃ (k : Nat) (os : List Ev), k ≤ n ∧ iv = .int .i64 k ∧ Hid (NumSt w wr negF true 0 false es k v os)) (fun _ iv _ => n - (intOf iv).toNat)
  case atStart => exact ⟨0, [], Nat.zero_le _, rfl, Lib.hid ⟨World.ownsRow_nil _ _ _ _, by simp, rfl, Below.refl _ _, Nat.le_refl _⟩⟩
  case round =>
    obtain ⟨k, os, hk, rfl, HR⟩ := hrel
    by_cases hlt : k < n
    · obtain ⟨b, off, x, rfl, hb, hx, hcl⟩ := HE.out.lst.at hlt
      have c0 := (HR.out.old.cell (p := ⟨b, off + k * 2 + 0, none⟩) hb).trans (hcl 0 _ rfl)
      have c1 := (HR.out.old.cell (p := ⟨b, off + k * 2 + 1, none⟩) hb).trans (hcl 1 _ rfl)
      simp only [Nat.add_zero] at c0
      have hxE := HE.out.each x (List.mem_of_getElem? hx)
      have hfew := HR.out.few
      have hsz := HR.out.old.size
      have HX := Lib.hid (show _ ∧ _ from ⟨hx, hxE⟩)
      clear hx hxE hcl
      obtain ⟨hi, hz0, hz1, hz2⟩ := HI.out
      go_wp2_with fail
      obtain ⟨W1, hW1⟩ : ∃ W1, wr.alloc (.cells #[.slice x.A x.n x.c, .int .u64 x.v.toNat] 90) = W1 := ⟨_, rfl⟩
      have hbx : Below wr.heap.size wr W1 := by rw [← hW1]; exact (Below.refl _ wr).alloc (Nat.le_refl _) _
      have hz1' : W1.heap.size = wr.heap.size + 1 := by rw [← hW1]; simp
      have hbox : W1.heap[wr.heap.size]? = some (.cells #[.slice x.A x.n x.c, .int .u64 x.v.toNat] 90 (0, 0)) := by rw [← hW1]; exact heap_alloc_new wr _
      rw [hW1]
      obtain ⟨x0, x1, _, _⟩ := box_two hbox
      have HB := Lib.hid (show _ ∧ _ ∧ _ from ⟨hbx, hbox, (⟨x0, x1⟩ : _ ∧ _)⟩)
      clear hW1 hbox c0 c1
      have hW2 : Below wr.heap.size wr (W1.alloc (.cells #[.string nameT] 9)).drew := (hbx.alloc hbx.size _).drew
      have hcon : Calls Tryz.prog 53 #[.slice x.A x.n x.c, .slice (some ⟨wr.heap.size + 1, 0, none⟩) 1 1] (W1.alloc (.cells #[.string nameT] 9)).drew (OwnedL (lessL x.l [nameT]) (W1.alloc (.cells #[.string nameT] 9)).drew) := by
        have hxW := (HX.out.2.on HR.out.old).on hW2
        have hnm := encTx_name W1
        rw [hz1'] at hnm
        exact without_any x.A _ x.n x.c 1 1 x.l [nameT] _ hxW.lst hnm (by have := HX.out.2.few; omega) (by omega) (fun q hq => by have := (HX.out.2.sz q hq).1; unfold maxLen; omega) (fun q hq => by rw [List.mem_singleton.1 hq]; decide)
      have hra := owns_below HR.out.row hW2
      have hvn : u3.ownBlock ≠ some wr.heap.size := fun e => by have := (HR.out.row.lt _ e).2; omega
      have HN := Lib.hid (show _ ∧ _ ∧ _ ∧ _ ∧ _ from ⟨hcon, hra, hvn, hW2, fine_filter HX.out.2.fine fun z => !inT [nameT] z.nm⟩)
      clear hcon hra hvn hW2 hbx
      go_region_held3 (fun w' => w'.cell? ⟨wr.heap.size, 0, none⟩ = some (.slice x.A x.n x.c) ∧ w'.cell? ⟨wr.heap.size, 1, none⟩ = some (.int .u64 x.v.toNat)) (first | exact k7 | exact k6 | exact HB.out.2.2 | go_keep)
        (first
          | (go_at_call 53; refine HN.out.1.mono ?_; rintro e w5 ⟨v5, rfl, ho5, hb5⟩; obtain ⟨A5, c5, rfl, _, _⟩ := owns_slice ho5; have hold5 := HN.out.2.2.2.1.trans (hb5.mono HN.out.2.2.2.1.size); have k6 := cell_two (((Below.refl W1.heap.size W1).alloc (Nat.le_refl _) (.cells #[.string nameT] 9)).drew.trans (hb5.mono (by simp))) HB.out.2.2; have hs5 := hold5.size; have H5 := Lib.hid (show _ ∧ _ ∧ _ from ⟨owns_base ho5 (B' := wr.heap.size) (by simp; omega), hold5, owns_below HN.out.2.1 hb5⟩); clear ho5 hb5 hold5)
          | (go_at_call 104; refine (numNeg_any _ _).mono ?_; rintro e w' ⟨rfl, hw⟩; rw [hw]; clear hw w')
          | (refine step_append_lies _ (by rfl) _ _ _ (by rfl) w.heap.size 90 i0 _ 2 32 Tryz.underlying33 hi hz0 hz1 hz2 rfl (by omega) _ os.length (os.flatMap encEv) (by rfl) (by exact H5.out.2.2.alloc _) ⟨w5.heap.size, 0, none⟩ 1 1 [.slice A5 (lessL x.l [nameT]).length c5, .int .u64 (FL.negU x.v).toNat] (by rfl) (by rfl) (by exact cells_newL w5 [.slice A5 (lessL x.l [nameT]).length c5, .int .u64 (FL.negU x.v).toNat] _) (by simp [Value.oneCell']) (by omega) (by unfold maxLen; omega) (by omega) (by simp; omega) (w5.heap.size + 1) (by simp) ?_; intro g6 c6' w6 hown6 hg6 hl6 hlt6; have hba : Below w5.heap.size w5 (w5.alloc (.cells #[.slice A5 (lessL x.l [nameT]).length c5, .int .u64 (FL.negU x.v).toNat] 90)) := (Below.refl _ _).alloc (Nat.le_refl _) _; have k7 := (show World.cell? w6 ⟨wr.heap.size, 0, none⟩ = some (.slice x.A x.n x.c) ∧ World.cell? w6 ⟨wr.heap.size, 1, none⟩ = some (.int .u64 x.v.toNat) from ⟨(GrownIn.of_grownBy hg6).cell (cell_two hba k6).1 HN.out.2.2.1, (GrownIn.of_grownBy hg6).cell (cell_two hba k6).2 HN.out.2.2.1⟩); have H6 := Lib.hid (HR.out.add HX.out.1 (H5.out.2.1.alloc H5.out.2.1.size _) (src_box (y := FL.negU x.v) H5.out.1 hsz HN.out.2.2.2.2 _) hown6 hg6 rfl rfl); clear hown6 hg6 hl6 hlt6 hba)
          | fail)
      all_goals
        go_wp2
        go_roundw
        case measure => simp [intOf]; omega
        case rel => exact ⟨k + 1, _, hlt, by simp, H6⟩
    · obtain rfl : k = n := by omega
      have hel := HR.out.el
      rw [List.take_of_length_le (by omega)] at hel
      have hfew := HR.out.few
      obtain ⟨A3, c3, rfl, _, _⟩ := owns_slice HR.out.row
      have hels := row_els HR.out.row HR.out.src HR.out.old (by omega)
      have hd := sorted_any A3 os.length c3 os _ hels
      rw [hel] at hd
      have HD := Lib.hid (show _ ∧ _ from ⟨hd, HR.out.old⟩)
      clear hels hd hel HR
      go_wp2_with fail
      refine HD.out.1.mono ?_
      rintro e w4 ⟨v4, os4, rfl, hO, hm, hb4⟩
      have HF := Lib.hid (show _ ∧ _ ∧ _ from ⟨hO.base HD.out.2.size, hm, HD.out.2.trans (hb4.mono HD.out.2.size)⟩)
      clear hO hm hb4
      go_wp2
      go_ret
      exact ⟨v4, os4, rfl, HF.out.1, HF.out.2.1, HF.out.2.2⟩
end Go.Proofs.YtajaijidecomdaaGreatDoor
