import Derived.Test.YtglafbfbgjihbaaStabInt
namespace Go.Proofs.Ytglafbfbgjihbaa
open Go.RowKit Go.Lib Go.Sort
variable {α : Type} [Inhabited α]
set_option maxHeartbeats 1000000 in
set_option maxRecDepth 1000000 in
theorem symMerge_int_left (enc : α → Value) (cf : α → α → Int) (tag : α → Nat) (g : Nat) (cb : Array Value) (blk off cap L a m b : Nat) (A M B : Int) (d0 d : Array α) (w0 w : World)
    (eg : ∀ args w, (callFunc g args).run Try.prog w = .ok (.enter g args) w) (hO : SWO (ltOf cf)) (hcmp : CmpLays1 Try.prog g cb enc cf blk off d0.size w0) (R : Row1 enc w0 blk off d0) (hs : d0.size = d.size) (S : SW enc w0 blk off d w)
    (hL : d.size = L) (hA : A = (a : Int)) (hM : M = (m : Int)) (hB : B = (b : Int)) (hm : m = a + 1) (hmb : m < b) (hb : b ≤ d.size) (hsz : d.size < 2305843009213693952) (hR : Runs (ltOf cf) tag a m b d) :
    Calls Try.prog 99 #[.slice (some ⟨blk, off, none⟩) L cap, .int .i64 A, .int .i64 M, .int .i64 B, .func (.func g) #[] cb] w fun e w' =>
      e = .returned (.tuple #[]) ∧ ∃ d', SW enc w0 blk off d' w' ∧ PermIn a b d d' ∧ SortedR (ltOf cf) tag a b d' := by
  subst hL hA hM hB
  have mixed : Try.prog.follows .mixedOrders = true := by kernel_rfl
  have HC : Aside _ := hcmp
  have HR := Lib.hid hR
  have S0 : Aside (SW enc w0 blk off d w) := S
  clear S hcmp hR
  have z1 : ((m : Int) - (a : Int) == 1) = true := by rw [beq_iff_eq]; omega
  have Hm := Lib.hid hm
  have hm' : a < m := by omega
  clear hm
  go_enter Try.func99, Try.ntmps99
  go_wp2
  go_loopg [10, 11] (b - m) (fun g1 vi vj wr => ∃ i j : Nat, vi = .int .i64 i ∧ vj = .int .i64 j ∧ m ≤ i ∧ i ≤ j ∧ j ≤ b ∧ j - i ≤ g1 ∧ Hid (m < i → ltOf cf d[i - 1]! d[a]! = true) ∧ Hid (j < b → ltOf cf d[j]! d[a]! = false) ∧ Aside (SW enc w0 blk off d wr))
  case atStart => exact ⟨m, b, rfl, rfl, Nat.le_refl _, by omega, Nat.le_refl _, Nat.le_refl _, (show Hid _ from fun h => by omega), (show Hid _ from fun h => by omega), S0⟩
  case round =>
    clear S0
    obtain ⟨i, j, rfl, rfl, hmi, hij, hjb, hg1, HI, HJ, S1⟩ := hrel
    by_cases hlt : i < j
    · have hz : (i : Int) < (j : Int) := by omega
      obtain ⟨h, hh⟩ : ∃ h, h = (i + j) / 2 := ⟨_, rfl⟩
      have hi1 : i ≤ h := by omega
      have hi2 : h < j := by omega
      obtain ⟨hN, hhN⟩ : ∃ q, q = h := ⟨_, rfl⟩
      have eh : (((i : Int) + (j : Int)) / 2).toNat = hN := by omega
      have ph : (0 : Int) ≤ ((i : Int) + (j : Int)) / 2 := by omega
      have bh : ((i : Int) + (j : Int)) / 2 < (d.size : Int) := by omega
      have ba : (a : Int) < (d.size : Int) := by omega
      obtain ⟨x, hx⟩ : ∃ x, x = d[h]! := ⟨_, rfl⟩
      obtain ⟨y, hy⟩ : ∃ x, x = d[a]! := ⟨_, rfl⟩
      have la := S1.out.cl R (by omega) h (by omega)
      have lb := S1.out.cl R (by omega) a (by omega)
      rw [← hx, ← hhN] at la
      rw [← hy] at lb
      have hc := S1.out.cmp HC.out (by omega) x y
      have Hx := Lib.hid hx
      have Hy := Lib.hid hy
      have HhN := Lib.hid hhN
      have Hh := Lib.hid hh
      clear hx hy hhN hh
      cases hlv : decide (cf x y < 0) with
      | true =>
        have hv : cf x y < 0 := of_decide_eq_true hlv
        go_wp2_with fail
        go_quiet_grown (first | (go_at_fn g; refine Calls.grown_of (hc _ _)))
        have S2 : Aside (SW enc w0 blk off d (grow (wr.drewN nq) osq)) := S1.out.grown nq osq
        clear la lb hc S1
        generalize grow (wr.drewN nq) osq = w2 at S2 ⊢
        clear nq osq eh
        go_wp2
        go_roundg (j - (h + 1))
        case measure => omega
        case rel => exact ⟨h + 1, j, (by have := Hh.out; congr 1; omega), rfl, by omega, by omega, hjb, Nat.le_refl _, (show Hid _ from fun _ => by rw [Nat.add_sub_cancel, ← Hx.out, ← Hy.out]; exact hlv), HJ, S2⟩
      | false =>
        have hv : ¬ cf x y < 0 := of_decide_eq_false hlv
        go_wp2_with fail
        go_quiet_grown (first | (go_at_fn g; refine Calls.grown_of (hc _ _)))
        have S2 : Aside (SW enc w0 blk off d (grow (wr.drewN nq) osq)) := S1.out.grown nq osq
        clear la lb hc S1
        generalize grow (wr.drewN nq) osq = w2 at S2 ⊢
        clear nq osq eh
        go_wp2
        go_roundg (h - i)
        case measure => omega
        case rel => exact ⟨i, h, rfl, (by have := Hh.out; congr 1; omega), hmi, hi1, by omega, Nat.le_refl _, HI, (show Hid _ from fun _ => by rw [← Hx.out, ← Hy.out]; exact hlv), S2⟩
    · have hz : ¬ (i : Int) < (j : Int) := by omega
      obtain rfl : i = j := by omega
      have hS1 := merge_one_left hO (d := d) (tag := tag) hb (by have := Hm.out; rw [← this]; exact HR.out) (by omega) hjb HJ.out (fun h => HI.out (by have := Hm.out; omega))
      have HS := Lib.hid hS1
      clear hS1
      go_wp2
      go_loopg [13] (i - a) (fun g1 vk wr => ∃ k : Nat, vk = .int .i64 k ∧ a ≤ k ∧ k + 1 ≤ i ∧ i - k ≤ g1 ∧ Aside (SW enc w0 blk off (rotA d a (a + 1) (k + 1)) wr))
      case atStart => exact ⟨a, rfl, Nat.le_refl _, by omega, Nat.le_refl _, (show Aside (SW _ _ _ _ _ _) from by rw [rotA_none]; exact S1.out)⟩
      case round =>
        clear S1
        obtain ⟨k, rfl, hak, hki, hg2, S2⟩ := hrel
        by_cases hlt2 : k + 1 < i
        · have hz2 : (k : Int) < (i : Int) - 1 := by omega
          obtain ⟨c, hc⟩ : ∃ c, c = rotA d a (a + 1) (k + 1) := ⟨_, rfl⟩
          have hsc : c.size = d.size := by rw [hc]; exact size_rotA _ _ _ _
          have hsw : swp c k (k + 1) = rotA d a (a + 1) (k + 1 + 1) := by rw [hc]; exact rotA_up d a (k + 1) (by omega) (by omega)
          rw [← hc] at S2
          obtain ⟨x, hx⟩ : ∃ x, x = c[k]! := ⟨_, rfl⟩
          obtain ⟨y, hy⟩ : ∃ x, x = c[k + 1]! := ⟨_, rfl⟩
          obtain ⟨iN, hiN⟩ : ∃ q, q = k := ⟨_, rfl⟩
          obtain ⟨jN, hjN⟩ : ∃ q, q = k + 1 := ⟨_, rfl⟩
          have ea : ((k : Int)).toNat = iN := by omega
          have pa : (0 : Int) ≤ (k : Int) := by omega
          have ba : (k : Int) < (d.size : Int) := by omega
          have ec : ((k : Int) + 1).toNat = jN := by omega
          have pc : (0 : Int) ≤ (k : Int) + 1 := by omega
          have bc : (k : Int) + 1 < (d.size : Int) := by omega
          have rc : IntKind.i64.wrap ((k : Int) + 1) = (k : Int) + 1 := by rw [IntKind.wrap_i64]; omega
          have S3 : Aside (SW enc w0 blk off (rotA d a (a + 1) (k + 1 + 1)) ((wr.setCell ⟨blk, off + iN, none⟩ (enc y)).setCell ⟨blk, off + jN, none⟩ (enc x)).drew) := by
            have := S2.out.swapped R k (k + 1) (by omega) (by omega)
            rw [hsw] at this
            rw [hiN, hjN, hx, hy]; exact this
          have ca := S2.out.c1 R (by omega) k (by omega)
          have cb := S2.out.c1 R (by omega) (k + 1) (by omega)
          have fa := S2.out.f1 R (by omega) k (by omega)
          have fb := S2.out.f1 R (by omega) (k + 1) (by omega)
          obtain ⟨u, cu⟩ := S2.out.c2 R (by omega) k (k + 1) (by omega) (by omega) (enc y)
          rw [← hjN, ← hiN] at cu
          rw [← hx, ← hiN] at ca
          rw [← hy, ← hjN] at cb
          rw [← hiN] at fa
          rw [← hjN] at fb
          have hcl0 := R.hO.cells
          simp only [Value.cells] at hcl0
          have hst := R.hO.store Try.prog
          clear S2 hx hy hiN hjN hc hsc hsw
          go_wp2_with fail
          go_big_region
          clear ca cb cu fa fb hcl0 hst
          generalize ((wr.setCell ⟨blk, off + iN, none⟩ (enc y)).setCell ⟨blk, off + jN, none⟩ (enc x)).drew = w3 at S3 ⊢
          clear ea ec
          go_wp2
          go_roundg (i - (k + 1))
          case measure => omega
          case rel => exact ⟨k + 1, by go_num, by omega, by omega, Nat.le_refl _, S3⟩
        · have hz2 : ¬ (k : Int) < (i : Int) - 1 := by omega
          obtain rfl : i = k + 1 := by omega
          go_wp2
          refine bodyPost_ret (results_none rfl _ _ _) rfl ⟨rfl, _, S2.out, rotA_permIn d a (a + 1) (k + 1) a b (Nat.le_refl _) (by omega) (by omega) hjb hb, HS.out⟩

set_option maxHeartbeats 1000000 in
set_option maxRecDepth 1000000 in
theorem symMerge_int_right (enc : α → Value) (cf : α → α → Int) (tag : α → Nat) (g : Nat) (cb : Array Value) (blk off cap L a m b : Nat) (A M B : Int) (d0 d : Array α) (w0 w : World)
    (eg : ∀ args w, (callFunc g args).run Try.prog w = .ok (.enter g args) w) (hO : SWO (ltOf cf)) (hcmp : CmpLays1 Try.prog g cb enc cf blk off d0.size w0) (R : Row1 enc w0 blk off d0) (hs : d0.size = d.size) (S : SW enc w0 blk off d w)
    (hL : d.size = L) (hA : A = (a : Int)) (hM : M = (m : Int)) (hB : B = (b : Int)) (ham : a + 1 < m) (hbm : b = m + 1) (hb : b ≤ d.size) (hsz : d.size < 2305843009213693952) (hR : Runs (ltOf cf) tag a m b d) :
    Calls Try.prog 99 #[.slice (some ⟨blk, off, none⟩) L cap, .int .i64 A, .int .i64 M, .int .i64 B, .func (.func g) #[] cb] w fun e w' =>
      e = .returned (.tuple #[]) ∧ ∃ d', SW enc w0 blk off d' w' ∧ PermIn a b d d' ∧ SortedR (ltOf cf) tag a b d' := by
  subst hL hA hM hB
  have mixed : Try.prog.follows .mixedOrders = true := by kernel_rfl
  have HC : Aside _ := hcmp
  have HR := Lib.hid hR
  have S0 : Aside (SW enc w0 blk off d w) := S
  clear S hcmp hR
  have z1 : ((m : Int) - (a : Int) == 1) = false := by rw [beq_eq_false_iff_ne]; omega
  have z2 : ((b : Int) - (m : Int) == 1) = true := by rw [beq_iff_eq]; omega
  have Hm := Lib.hid hbm
  have hm' : m < b := by omega
  clear hbm
  go_enter Try.func99, Try.ntmps99
  go_wp2
  go_loopg [14, 15] (m - a) (fun g1 vi vj wr => ∃ i j : Nat, vi = .int .i64 i ∧ vj = .int .i64 j ∧ a ≤ i ∧ i ≤ j ∧ j ≤ m ∧ j - i ≤ g1 ∧ Hid (a < i → ltOf cf d[m]! d[i - 1]! = false) ∧ Hid (j < m → ltOf cf d[m]! d[j]! = true) ∧ Aside (SW enc w0 blk off d wr))
  case atStart => exact ⟨a, m, rfl, rfl, Nat.le_refl _, by omega, Nat.le_refl _, Nat.le_refl _, (show Hid _ from fun h => by omega), (show Hid _ from fun h => by omega), S0⟩
  case round =>
    clear S0
    obtain ⟨i, j, rfl, rfl, hmi, hij, hjb, hg1, HI, HJ, S1⟩ := hrel
    by_cases hlt : i < j
    · have hz : (i : Int) < (j : Int) := by omega
      obtain ⟨h, hh⟩ : ∃ h, h = (i + j) / 2 := ⟨_, rfl⟩
      have hi1 : i ≤ h := by omega
      have hi2 : h < j := by omega
      obtain ⟨hN, hhN⟩ : ∃ q, q = h := ⟨_, rfl⟩
      have eh : (((i : Int) + (j : Int)) / 2).toNat = hN := by omega
      have ph : (0 : Int) ≤ ((i : Int) + (j : Int)) / 2 := by omega
      have bh : ((i : Int) + (j : Int)) / 2 < (d.size : Int) := by omega
      have ba : (m : Int) < (d.size : Int) := by omega
      obtain ⟨x, hx⟩ : ∃ x, x = d[m]! := ⟨_, rfl⟩
      obtain ⟨y, hy⟩ : ∃ x, x = d[h]! := ⟨_, rfl⟩
      have la := S1.out.cl R (by omega) m (by omega)
      have lb := S1.out.cl R (by omega) h (by omega)
      rw [← hx] at la
      rw [← hy, ← hhN] at lb
      have hc := S1.out.cmp HC.out (by omega) x y
      have Hx := Lib.hid hx
      have Hy := Lib.hid hy
      have HhN := Lib.hid hhN
      have Hh := Lib.hid hh
      clear hx hy hhN hh
      cases hlv : decide (cf x y < 0) with
      | true =>
        have hv : cf x y < 0 := of_decide_eq_true hlv
        go_wp2_with fail
        go_quiet_grown (first | (go_at_fn g; refine Calls.grown_of (hc _ _)))
        have S2 : Aside (SW enc w0 blk off d (grow (wr.drewN nq) osq)) := S1.out.grown nq osq
        clear la lb hc S1
        generalize grow (wr.drewN nq) osq = w2 at S2 ⊢
        clear nq osq eh
        go_wp2
        go_roundg (h - i)
        case measure => omega
        case rel => exact ⟨i, h, rfl, (by have := Hh.out; congr 1; omega), hmi, hi1, by omega, Nat.le_refl _, HI, (show Hid _ from fun _ => by rw [← Hx.out, ← Hy.out]; exact hlv), S2⟩
      | false =>
        have hv : ¬ cf x y < 0 := of_decide_eq_false hlv
        go_wp2_with fail
        go_quiet_grown (first | (go_at_fn g; refine Calls.grown_of (hc _ _)))
        have S2 : Aside (SW enc w0 blk off d (grow (wr.drewN nq) osq)) := S1.out.grown nq osq
        clear la lb hc S1
        generalize grow (wr.drewN nq) osq = w2 at S2 ⊢
        clear nq osq eh
        go_wp2
        go_roundg (j - (h + 1))
        case measure => omega
        case rel => exact ⟨h + 1, j, (by have := Hh.out; congr 1; omega), rfl, by omega, by omega, hjb, Nat.le_refl _, (show Hid _ from fun _ => by rw [Nat.add_sub_cancel, ← Hx.out, ← Hy.out]; exact hlv), HJ, S2⟩
    · have hz : ¬ (i : Int) < (j : Int) := by omega
      obtain rfl : i = j := by omega
      have hS1 := merge_one_right hO (d := d) (tag := tag) (m := m) (by have := Hm.out; omega) (by have := Hm.out; rw [← this]; exact HR.out) hmi hjb HI.out HJ.out
      rw [← Hm.out] at hS1
      have HS := Lib.hid hS1
      clear hS1
      go_wp2
      go_loopg [17] (m - i) (fun g1 vk wr => ∃ k : Nat, vk = .int .i64 k ∧ i ≤ k ∧ k ≤ m ∧ k - i ≤ g1 ∧ Aside (SW enc w0 blk off (rotA d k m b) wr))
      case atStart => exact ⟨m, rfl, hjb, Nat.le_refl _, Nat.le_refl _, (show Aside (SW _ _ _ _ _ _) from by rw [rotA_none']; exact S1.out)⟩
      case round =>
        clear S1
        obtain ⟨k, rfl, hak, hki, hg2, S2⟩ := hrel
        by_cases hlt2 : i < k
        · have hz2 : (i : Int) < (k : Int) := by omega
          obtain ⟨kp, hkp⟩ : ∃ q, q + 1 = k := ⟨k - 1, by omega⟩
          subst hkp
          have hz3 : (i : Int) < (kp : Int) + 1 := by omega
          obtain ⟨c, hc⟩ : ∃ c, c = rotA d (kp + 1) m b := ⟨_, rfl⟩
          have hsc : c.size = d.size := by rw [hc]; exact size_rotA _ _ _ _
          have hsw : swp c (kp + 1) kp = rotA d kp m b := by rw [hc, Hm.out]; exact rotA_down d (kp + 1) m (by omega) (by omega) (by omega)
          rw [← hc] at S2
          obtain ⟨x, hx⟩ : ∃ x, x = c[kp + 1]! := ⟨_, rfl⟩
          obtain ⟨y, hy⟩ : ∃ x, x = c[kp]! := ⟨_, rfl⟩
          obtain ⟨iN, hiN⟩ : ∃ q, q = kp + 1 := ⟨_, rfl⟩
          obtain ⟨jN, hjN⟩ : ∃ q, q = kp := ⟨_, rfl⟩
          have ea : ((kp : Int) + 1).toNat = iN := by omega
          have pa : (0 : Int) ≤ (kp : Int) + 1 := by omega
          have ba : (kp : Int) + 1 < (d.size : Int) := by omega
          have ra : IntKind.i64.wrap ((kp : Int) + 1) = (kp : Int) + 1 := by rw [IntKind.wrap_i64]; omega
          have ec : ((kp : Int)).toNat = jN := by omega
          have pc : (0 : Int) ≤ (kp : Int) := by omega
          have bc : (kp : Int) < (d.size : Int) := by omega
          have rc : IntKind.i64.wrap (kp : Int) = (kp : Int) := by rw [IntKind.wrap_i64]; omega
          have S3 : Aside (SW enc w0 blk off (rotA d kp m b) ((wr.setCell ⟨blk, off + iN, none⟩ (enc y)).setCell ⟨blk, off + jN, none⟩ (enc x)).drew) := by
            have := S2.out.swapped R (kp + 1) kp (by omega) (by omega)
            rw [hsw] at this
            rw [hiN, hjN, hx, hy]; exact this
          have ca := S2.out.c1 R (by omega) (kp + 1) (by omega)
          have cb' := S2.out.c1 R (by omega) kp (by omega)
          have fa := S2.out.f1 R (by omega) (kp + 1) (by omega)
          have fb := S2.out.f1 R (by omega) kp (by omega)
          obtain ⟨u, cu⟩ := S2.out.c2 R (by omega) (kp + 1) kp (by omega) (by omega) (enc y)
          rw [← hiN, ← hjN] at cu
          rw [← hx, ← hiN] at ca
          rw [← hy, ← hjN] at cb'
          rw [← hiN] at fa
          rw [← hjN] at fb
          have hcl0 := R.hO.cells
          simp only [Value.cells] at hcl0
          have hst := R.hO.store Try.prog
          clear S2 hx hy hiN hjN hc hsc hsw
          go_wp2_with fail
          go_big_region
          clear ca cb' cu fa fb hcl0 hst
          generalize ((wr.setCell ⟨blk, off + iN, none⟩ (enc y)).setCell ⟨blk, off + jN, none⟩ (enc x)).drew = w3 at S3 ⊢
          clear ea ec
          go_wp2
          go_roundg (kp - i)
          case measure => omega
          case rel => exact ⟨kp, by first | rfl | go_num | (congr 1; omega), by omega, by omega, Nat.le_refl _, S3⟩
        · have hz2 : ¬ (i : Int) < (k : Int) := by omega
          obtain rfl : i = k := by omega
          go_wp2
          refine bodyPost_ret (results_none rfl _ _ _) rfl ⟨rfl, _, S2.out, rotA_permIn d i m b a b hmi hki (by omega) (Nat.le_refl _) hb, HS.out⟩
end Go.Proofs.Ytglafbfbgjihbaa
