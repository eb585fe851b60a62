/-   -/
import Derived.Test.YtihidnmpngeohaaGreatG15
import Derived.Deep.Cut
namespace Go.Proofs.YtihidnmpngeohaaGreat
open Go.RowKit Go.Lib Go.Sort
variable {α : Type} [Inhabited α]
set_option maxHeartbeats 1000000 in
set_option maxRecDepth 1000000 in
theorem symMerge_tmb_left (enc : α → List Value) (cf : α → α → Int) (tag : α → Nat) (g : Nat) (cb : Array Value) (blk off cap L a m b : Nat) (A M B : Int) (d0 d : Array α) (w0 w : World)
    (eg : ∀ args w, (callFunc g args).run Tryz.prog w = .ok (.enter g args) w) (hO : SWO (ltOf cf)) (hcmp : CmpLays Tryz.prog g cb enc 3 cf blk off d0.size w0) (R : RowT enc w0 blk off d0) (hs : d0.size = d.size) (S : SWK enc 3 w0 blk off d w)
    (hL : d.size = L) (hA : A = (a : Int)) (hM : M = (m : Int)) (hB : B = (b : Int)) (hm : m = a + 1) (hmb : m < b) (hb : b ≤ d.size) (hsz : d.size < 2305843009213693952) (hR : Runs (ltOf cf) tag a m b d) :
    Calls Tryz.prog 128 #[.slice (some ⟨blk, off, none⟩) L cap, .int .i64 A, .int .i64 M, .int .i64 B, .func (.func g) #[] cb] w fun e w' =>
      e = .returned (.tuple #[]) ∧ ∃ d', SWK enc 3 w0 blk off d' w' ∧ PermIn a b d d' ∧ SortedR (ltOf cf) tag a b d' := by
  subst hL hA hM hB
  have mixed : Tryz.prog.follows .mixedOrders = true := by kernel_rfl
  have HC : Aside _ := hcmp
  have HR := Lib.hid hR
  have S0 : Aside (SWK enc 3 w0 blk off d w) := S
  clear S hcmp hR
  have z1 : ((m : Int) - (a : Int) == 1) = true := by rw [beq_iff_eq]; omega
  have Hm := Lib.hid hm
  have hm' : a < m := by omega
  clear hm
  go_enter Tryz.func128, Tryz.ntmps128
  go_wp2
  go_loopg [10, 11] (b - m) (fun g1 vi vj wr => ∃ i j : Nat, vi = .int .i64 i ∧ vj = .int .i64 j ∧ m ≤ i ∧ i ≤ j ∧ j ≤ b ∧ j - i ≤ g1 ∧ Hid (m < i → ltOf cf d[i - 1]! d[a]! = true) ∧ Hid (j < b → ltOf cf d[j]! d[a]! = false) ∧ Aside (SWK enc 3 w0 blk off d wr))
  case atStart => exact ⟨m, b, rfl, rfl, Nat.le_refl _, by omega, Nat.le_refl _, Nat.le_refl _, (show Hid _ from fun h => by omega), (show Hid _ from fun h => by omega), S0⟩
  case round =>
    clear S0
    obtain ⟨i, j, rfl, rfl, hmi, hij, hjb, hg1, HI, HJ, S1⟩ := hrel
    by_cases hlt : i < j
    · have hz : (i : Int) < (j : Int) := by omega
      obtain ⟨h, hh⟩ : ∃ h, h = (i + j) / 2 := ⟨_, rfl⟩
      have hi1 : i ≤ h := by omega
      have hi2 : h < j := by omega
      obtain ⟨hN, hhN⟩ : ∃ q, q = h := ⟨_, rfl⟩
      have eh : (((i : Int) + (j : Int)) / 2).toNat = hN := by omega
      have ph : (0 : Int) ≤ ((i : Int) + (j : Int)) / 2 := by omega
      have bh : ((i : Int) + (j : Int)) / 2 < (d.size : Int) := by omega
      have ba : (a : Int) < (d.size : Int) := by omega
      obtain ⟨x, hx⟩ : ∃ x, x = d[h]! := ⟨_, rfl⟩
      obtain ⟨y, hy⟩ : ∃ x, x = d[a]! := ⟨_, rfl⟩
      obtain ⟨xA, xn, xc, x1, x2, hex⟩ := R.three x
      obtain ⟨yA, yn, yc, y1, y2, hey⟩ := R.three y
      have la0 := S1.out.cl3 R (by omega) h (by omega) (hx ▸ hex)
      have lb0 := S1.out.cl3 R (by omega) a (by omega) (hy ▸ hey)
      have la := fun n os => (la0 n os).1
      have la1 := fun n os => (la0 n os).2.1
      have la2 := fun n os => (la0 n os).2.2
      have lb := fun n os => (lb0 n os).1
      have lb1 := fun n os => (lb0 n os).2.1
      have lb2 := fun n os => (lb0 n os).2.2
      clear la0 lb0
      rw [← hhN] at la la1 la2
      skip
      have hc := S1.out.cmp HC.out (by omega) x y
      rw [hex, hey] at hc
      have Hx := Lib.hid hx
      have Hy := Lib.hid hy
      have HhN := Lib.hid hhN
      have Hh := Lib.hid hh
      clear hx hy hhN hh hex hey
      cases hlv : decide (cf x y < 0) with
      | true =>
        have hv : cf x y < 0 := of_decide_eq_true hlv
        go_wp2_with fail
        go_quiet_grown (first | (go_at_fn g; refine Calls.grown_of (hc _ _)))
        have S2 : Aside (SWK enc 3 w0 blk off d (grow (wr.drewN nq) osq)) := S1.out.grown nq osq
        clear la la1 la2 lb lb1 lb2 hc S1
        generalize grow (wr.drewN nq) osq = w2 at S2 ⊢
        clear nq osq eh
        go_wp2
        go_roundg (j - (h + 1))
        case measure => omega
        case rel => exact ⟨h + 1, j, (by have := Hh.out; congr 1; omega), rfl, by omega, by omega, hjb, Nat.le_refl _, (show Hid _ from fun _ => by rw [Nat.add_sub_cancel, ← Hx.out, ← Hy.out]; exact hlv), HJ, S2⟩
      | false =>
        have hv : ¬ cf x y < 0 := of_decide_eq_false hlv
        go_wp2_with fail
        go_quiet_grown (first | (go_at_fn g; refine Calls.grown_of (hc _ _)))
        have S2 : Aside (SWK enc 3 w0 blk off d (grow (wr.drewN nq) osq)) := S1.out.grown nq osq
        clear la la1 la2 lb lb1 lb2 hc S1
        generalize grow (wr.drewN nq) osq = w2 at S2 ⊢
        clear nq osq eh
        go_wp2
        go_roundg (h - i)
        case measure => omega
        case rel => exact ⟨i, h, rfl, (by have := Hh.out; congr 1; omega), hmi, hi1, by omega, Nat.le_refl _, HI, (show Hid _ from fun _ => by rw [← Hx.out, ← Hy.out]; exact hlv), S2⟩
    · have hz : ¬ (i : Int) < (j : Int) := by omega
      obtain rfl : i = j := by omega
      have hS1 := merge_one_left hO (d := d) (tag := tag) hb (by have := Hm.out; rw [← this]; exact HR.out) (by omega) hjb HJ.out (fun h => HI.out (by have := Hm.out; omega))
      have HS := Lib.hid hS1
      clear hS1
      go_wp2
      go_loopg [13] (i - a) (fun g1 vk wr => ∃ k : Nat, vk = .int .i64 k ∧ a ≤ k ∧ k + 1 ≤ i ∧ i - k ≤ g1 ∧ Aside (SWK enc 3 w0 blk off (rotA d a (a + 1) (k + 1)) wr))
      case atStart => exact ⟨a, rfl, Nat.le_refl _, by omega, Nat.le_refl _, (show Aside (SWK _ _ _ _ _ _ _) from by rw [rotA_none]; exact S1.out)⟩
      case round =>
        clear S1
        obtain ⟨k, rfl, hak, hki, hg2, S2⟩ := hrel
        by_cases hlt2 : k + 1 < i
        · have hz2 : (k : Int) < (i : Int) - 1 := by omega
          obtain ⟨c, hc⟩ : ∃ c, c = rotA d a (a + 1) (k + 1) := ⟨_, rfl⟩
          have hsc : c.size = d.size := by rw [hc]; exact size_rotA _ _ _ _
          have hsw : swp c k (k + 1) = rotA d a (a + 1) (k + 1 + 1) := by rw [hc]; exact rotA_up d a (k + 1) (by omega) (by omega)
          rw [← hc] at S2
          obtain ⟨x, hx⟩ : ∃ x, x = c[k]! := ⟨_, rfl⟩
          obtain ⟨y, hy⟩ : ∃ x, x = c[k + 1]! := ⟨_, rfl⟩
          obtain ⟨iN, hiN⟩ : ∃ q, q = k := ⟨_, rfl⟩
          obtain ⟨jN, hjN⟩ : ∃ q, q = k + 1 := ⟨_, rfl⟩
          have ea : ((k : Int)).toNat = iN := by omega
          have pa : (0 : Int) ≤ (k : Int) := by omega
          have ba : (k : Int) < (d.size : Int) := by omega
          have ec : ((k : Int) + 1).toNat = jN := by omega
          have pc : (0 : Int) ≤ (k : Int) + 1 := by omega
          have bc : (k : Int) + 1 < (d.size : Int) := by omega
          have rc : IntKind.i64.wrap ((k : Int) + 1) = (k : Int) + 1 := by rw [IntKind.wrap_i64]; omega
          obtain ⟨xA, xn, xc, x1, x2, hex⟩ := R.three x
          obtain ⟨yA, yn, yc, y1, y2, hey⟩ := R.three y
          have S3 : Aside (SWK enc 3 w0 blk off (rotA d a (a + 1) (k + 1 + 1)) (((((((wr.setCell ⟨blk, off + iN * 3, none⟩ (.slice yA yn yc)).setCell ⟨blk, off + iN * 3 + 1, none⟩ (.int .i64 y1)).setCell ⟨blk, off + iN * 3 + 2, none⟩ (.int .i64 y2)).setCell ⟨blk, off + jN * 3, none⟩ (.slice xA xn xc)).setCell ⟨blk, off + jN * 3 + 1, none⟩ (.int .i64 x1)).setCell ⟨blk, off + jN * 3 + 2, none⟩ (.int .i64 x2)).drew)) := by
            have := S2.out.swapped3 R k (k + 1) (by omega) (by omega) (hx ▸ hex) (hy ▸ hey)
            rw [hsw] at this
            simp only [World.setCell_drew] at this
            rw [hiN, hjN]; exact this
          obtain ⟨ca0, ca1, ca2, fa0, fa1, fa2⟩ := S2.out.cells3 R (by omega) k (by omega) (hx ▸ hex)
          obtain ⟨cb0, cb1, cb2, fb0, fb1, fb2⟩ := S2.out.cells3 R (by omega) (k + 1) (by omega) (hy ▸ hey)
          rw [← hiN] at ca0 ca1 ca2 fa0 fa1 fa2
          rw [← hjN] at cb0 cb1 cb2 fb0 fb1 fb2
          have hne : iN * 3 + 2 < jN * 3 ∨ jN * 3 + 2 < iN * 3 := by omega
          clear S2 hx hy hex hey hiN hjN hc hsc hsw
          go_wp2_with fail
          go_big_region
          clear ca0 ca1 ca2 cb0 cb1 cb2 fa0 fa1 fa2 fb0 fb1 fb2 hne
          generalize (((((((wr.setCell ⟨blk, off + iN * 3, none⟩ (.slice yA yn yc)).setCell ⟨blk, off + iN * 3 + 1, none⟩ (.int .i64 y1)).setCell ⟨blk, off + iN * 3 + 2, none⟩ (.int .i64 y2)).setCell ⟨blk, off + jN * 3, none⟩ (.slice xA xn xc)).setCell ⟨blk, off + jN * 3 + 1, none⟩ (.int .i64 x1)).setCell ⟨blk, off + jN * 3 + 2, none⟩ (.int .i64 x2)).drew) = w3 at S3 ⊢
          clear ea ec
          go_wp2
          go_roundg (i - (k + 1))
          case measure => omega
          case rel => exact ⟨k + 1, by go_num, by omega, by omega, Nat.le_refl _, S3⟩
        · have hz2 : ¬ (k : Int) < (i : Int) - 1 := by omega
          obtain rfl : i = k + 1 := by omega
          go_wp2
          refine bodyPost_ret (results_none rfl _ _ _) rfl ⟨rfl, _, S2.out, rotA_permIn d a (a + 1) (k + 1) a b (Nat.le_refl _) (by omega) (by omega) hjb hb, HS.out⟩

set_option maxHeartbeats 1000000 in
set_option maxRecDepth 1000000 in
theorem symMerge_tmb_right (enc : α → List Value) (cf : α → α → Int) (tag : α → Nat) (g : Nat) (cb : Array Value) (blk off cap L a m b : Nat) (A M B : Int) (d0 d : Array α) (w0 w : World)
    (eg : ∀ args w, (callFunc g args).run Tryz.prog w = .ok (.enter g args) w) (hO : SWO (ltOf cf)) (hcmp : CmpLays Tryz.prog g cb enc 3 cf blk off d0.size w0) (R : RowT enc w0 blk off d0) (hs : d0.size = d.size) (S : SWK enc 3 w0 blk off d w)
    (hL : d.size = L) (hA : A = (a : Int)) (hM : M = (m : Int)) (hB : B = (b : Int)) (ham : a + 1 < m) (hbm : b = m + 1) (hb : b ≤ d.size) (hsz : d.size < 2305843009213693952) (hR : Runs (ltOf cf) tag a m b d) :
    Calls Tryz.prog 128 #[.slice (some ⟨blk, off, none⟩) L cap, .int .i64 A, .int .i64 M, .int .i64 B, .func (.func g) #[] cb] w fun e w' =>
      e = .returned (.tuple #[]) ∧ ∃ d', SWK enc 3 w0 blk off d' w' ∧ PermIn a b d d' ∧ SortedR (ltOf cf) tag a b d' := by
  subst hL hA hM hB
  have mixed : Tryz.prog.follows .mixedOrders = true := by kernel_rfl
  have HC : Aside _ := hcmp
  have HR := Lib.hid hR
  have S0 : Aside (SWK enc 3 w0 blk off d w) := S
  clear S hcmp hR
  have z1 : ((m : Int) - (a : Int) == 1) = false := by rw [beq_eq_false_iff_ne]; omega
  have z2 : ((b : Int) - (m : Int) == 1) = true := by rw [beq_iff_eq]; omega
  have Hm := Lib.hid hbm
  have hm' : m < b := by omega
  clear hbm
  go_enter Tryz.func128, Tryz.ntmps128
  go_wp2
  go_loopg [14, 15] (m - a) (fun g1 vi vj wr => ∃ i j : Nat, vi = .int .i64 i ∧ vj = .int .i64 j ∧ a ≤ i ∧ i ≤ j ∧ j ≤ m ∧ j - i ≤ g1 ∧ Hid (a < i → ltOf cf d[m]! d[i - 1]! = false) ∧ Hid (j < m → ltOf cf d[m]! d[j]! = true) ∧ Aside (SWK enc 3 w0 blk off d wr))
  case atStart => exact ⟨a, m, rfl, rfl, Nat.le_refl _, by omega, Nat.le_refl _, Nat.le_refl _, (show Hid _ from fun h => by omega), (show Hid _ from fun h => by omega), S0⟩
  case round =>
    clear S0
    obtain ⟨i, j, rfl, rfl, hmi, hij, hjb, hg1, HI, HJ, S1⟩ := hrel
    by_cases hlt : i < j
    · have hz : (i : Int) < (j : Int) := by omega
      obtain ⟨h, hh⟩ : ∃ h, h = (i + j) / 2 := ⟨_, rfl⟩
      have hi1 : i ≤ h := by omega
      have hi2 : h < j := by omega
      obtain ⟨hN, hhN⟩ : ∃ q, q = h := ⟨_, rfl⟩
      have eh : (((i : Int) + (j : Int)) / 2).toNat = hN := by omega
      have ph : (0 : Int) ≤ ((i : Int) + (j : Int)) / 2 := by omega
      have bh : ((i : Int) + (j : Int)) / 2 < (d.size : Int) := by omega
      have ba : (m : Int) < (d.size : Int) := by omega
      obtain ⟨x, hx⟩ : ∃ x, x = d[m]! := ⟨_, rfl⟩
      obtain ⟨y, hy⟩ : ∃ x, x = d[h]! := ⟨_, rfl⟩
      obtain ⟨xA, xn, xc, x1, x2, hex⟩ := R.three x
      obtain ⟨yA, yn, yc, y1, y2, hey⟩ := R.three y
      have la0 := S1.out.cl3 R (by omega) m (by omega) (hx ▸ hex)
      have lb0 := S1.out.cl3 R (by omega) h (by omega) (hy ▸ hey)
      have la := fun n os => (la0 n os).1
      have la1 := fun n os => (la0 n os).2.1
      have la2 := fun n os => (la0 n os).2.2
      have lb := fun n os => (lb0 n os).1
      have lb1 := fun n os => (lb0 n os).2.1
      have lb2 := fun n os => (lb0 n os).2.2
      clear la0 lb0
      skip
      rw [← hhN] at lb lb1 lb2
      have hc := S1.out.cmp HC.out (by omega) x y
      rw [hex, hey] at hc
      have Hx := Lib.hid hx
      have Hy := Lib.hid hy
      have HhN := Lib.hid hhN
      have Hh := Lib.hid hh
      clear hx hy hhN hh hex hey
      cases hlv : decide (cf x y < 0) with
      | true =>
        have hv : cf x y < 0 := of_decide_eq_true hlv
        go_wp2_with fail
        go_quiet_grown (first | (go_at_fn g; refine Calls.grown_of (hc _ _)))
        have S2 : Aside (SWK enc 3 w0 blk off d (grow (wr.drewN nq) osq)) := S1.out.grown nq osq
        clear la la1 la2 lb lb1 lb2 hc S1
        generalize grow (wr.drewN nq) osq = w2 at S2 ⊢
        clear nq osq eh
        go_wp2
        go_roundg (h - i)
        case measure => omega
        case rel => exact ⟨i, h, rfl, (by have := Hh.out; congr 1; omega), hmi, hi1, by omega, Nat.le_refl _, HI, (show Hid _ from fun _ => by rw [← Hx.out, ← Hy.out]; exact hlv), S2⟩
      | false =>
        have hv : ¬ cf x y < 0 := of_decide_eq_false hlv
        go_wp2_with fail
        go_quiet_grown (first | (go_at_fn g; refine Calls.grown_of (hc _ _)))
        have S2 : Aside (SWK enc 3 w0 blk off d (grow (wr.drewN nq) osq)) := S1.out.grown nq osq
        clear la la1 la2 lb lb1 lb2 hc S1
        generalize grow (wr.drewN nq) osq = w2 at S2 ⊢
        clear nq osq eh
        go_wp2
        go_roundg (j - (h + 1))
        case measure => omega
        case rel => exact ⟨h + 1, j, (by have := Hh.out; congr 1; omega), rfl, by omega, by omega, hjb, Nat.le_refl _, (show Hid _ from fun _ => by rw [Nat.add_sub_cancel, ← Hx.out, ← Hy.out]; exact hlv), HJ, S2⟩
    · have hz : ¬ (i : Int) < (j : Int) := by omega
      obtain rfl : i = j := by omega
      have hS1 := merge_one_right hO (d := d) (tag := tag) (m := m) (by have := Hm.out; omega) (by have := Hm.out; rw [← this]; exact HR.out) hmi hjb HI.out HJ.out
      rw [← Hm.out] at hS1
      have HS := Lib.hid hS1
      clear hS1
      go_wp2
      go_loopg [17] (m - i) (fun g1 vk wr => ∃ k : Nat, vk = .int .i64 k ∧ i ≤ k ∧ k ≤ m ∧ k - i ≤ g1 ∧ Aside (SWK enc 3 w0 blk off (rotA d k m b) wr))
      case atStart => exact ⟨m, rfl, hjb, Nat.le_refl _, Nat.le_refl _, (show Aside (SWK _ _ _ _ _ _ _) from by rw [rotA_none']; exact S1.out)⟩
      case round =>
        clear S1
        obtain ⟨k, rfl, hak, hki, hg2, S2⟩ := hrel
        by_cases hlt2 : i < k
        · have hz2 : (i : Int) < (k : Int) := by omega
          obtain ⟨kp, hkp⟩ : ∃ q, q + 1 = k := ⟨k - 1, by omega⟩
          subst hkp
          have hz3 : (i : Int) < (kp : Int) + 1 := by omega
          obtain ⟨c, hc⟩ : ∃ c, c = rotA d (kp + 1) m b := ⟨_, rfl⟩
          have hsc : c.size = d.size := by rw [hc]; exact size_rotA _ _ _ _
          have hsw : swp c (kp + 1) kp = rotA d kp m b := by rw [hc, Hm.out]; exact rotA_down d (kp + 1) m (by omega) (by omega) (by omega)
          rw [← hc] at S2
          obtain ⟨x, hx⟩ : ∃ x, x = c[kp + 1]! := ⟨_, rfl⟩
          obtain ⟨y, hy⟩ : ∃ x, x = c[kp]! := ⟨_, rfl⟩
          obtain ⟨iN, hiN⟩ : ∃ q, q = kp + 1 := ⟨_, rfl⟩
          obtain ⟨jN, hjN⟩ : ∃ q, q = kp := ⟨_, rfl⟩
          have ea : ((kp : Int) + 1).toNat = iN := by omega
          have pa : (0 : Int) ≤ (kp : Int) + 1 := by omega
          have ba : (kp : Int) + 1 < (d.size : Int) := by omega
          have ra : IntKind.i64.wrap ((kp : Int) + 1) = (kp : Int) + 1 := by rw [IntKind.wrap_i64]; omega
          have ec : ((kp : Int)).toNat = jN := by omega
          have pc : (0 : Int) ≤ (kp : Int) := by omega
          have bc : (kp : Int) < (d.size : Int) := by omega
          have rc : IntKind.i64.wrap (kp : Int) = (kp : Int) := by rw [IntKind.wrap_i64]; omega
          obtain ⟨xA, xn, xc, x1, x2, hex⟩ := R.three x
          obtain ⟨yA, yn, yc, y1, y2, hey⟩ := R.three y
          have S3 : Aside (SWK enc 3 w0 blk off (rotA d kp m b) (((((((wr.setCell ⟨blk, off + iN * 3, none⟩ (.slice yA yn yc)).setCell ⟨blk, off + iN * 3 + 1, none⟩ (.int .i64 y1)).setCell ⟨blk, off + iN * 3 + 2, none⟩ (.int .i64 y2)).setCell ⟨blk, off + jN * 3, none⟩ (.slice xA xn xc)).setCell ⟨blk, off + jN * 3 + 1, none⟩ (.int .i64 x1)).setCell ⟨blk, off + jN * 3 + 2, none⟩ (.int .i64 x2)).drew)) := by
            have := S2.out.swapped3 R (kp + 1) kp (by omega) (by omega) (hx ▸ hex) (hy ▸ hey)
            rw [hsw] at this
            simp only [World.setCell_drew] at this
            rw [hiN, hjN]; exact this
          obtain ⟨ca0, ca1, ca2, fa0, fa1, fa2⟩ := S2.out.cells3 R (by omega) (kp + 1) (by omega) (hx ▸ hex)
          obtain ⟨cb0, cb1, cb2, fb0, fb1, fb2⟩ := S2.out.cells3 R (by omega) kp (by omega) (hy ▸ hey)
          rw [← hiN] at ca0 ca1 ca2 fa0 fa1 fa2
          rw [← hjN] at cb0 cb1 cb2 fb0 fb1 fb2
          have hne : iN * 3 + 2 < jN * 3 ∨ jN * 3 + 2 < iN * 3 := by omega
          clear S2 hx hy hex hey hiN hjN hc hsc hsw
          go_wp2_with fail
          go_big_region
          clear ca0 ca1 ca2 cb0 cb1 cb2 fa0 fa1 fa2 fb0 fb1 fb2 hne
          generalize (((((((wr.setCell ⟨blk, off + iN * 3, none⟩ (.slice yA yn yc)).setCell ⟨blk, off + iN * 3 + 1, none⟩ (.int .i64 y1)).setCell ⟨blk, off + iN * 3 + 2, none⟩ (.int .i64 y2)).setCell ⟨blk, off + jN * 3, none⟩ (.slice xA xn xc)).setCell ⟨blk, off + jN * 3 + 1, none⟩ (.int .i64 x1)).setCell ⟨blk, off + jN * 3 + 2, none⟩ (.int .i64 x2)).drew) = w3 at S3 ⊢
          clear ea ec
          go_wp2
          go_roundg (kp - i)
          case measure => omega
          case rel => exact ⟨kp, by first | rfl | go_num | (congr 1; omega), by omega, by omega, Nat.le_refl _, S3⟩
        · have hz2 : ¬ (i : Int) < (k : Int) := by omega
          obtain rfl : i = k := by omega
          go_wp2
          refine bodyPost_ret (results_none rfl _ _ _) rfl ⟨rfl, _, S2.out, rotA_permIn d i m b a b hmi hki (by omega) (Nat.le_refl _) hb, HS.out⟩
end Go.Proofs.YtihidnmpngeohaaGreat
namespace Go.Proofs.YtihidnmpngeohaaGreat
open Go.RowKit Go.Lib Go.Sort
variable {α : Type} [Inhabited α]
set_option maxHeartbeats 2000000 in
set_option maxRecDepth 1000000 in
theorem symMerge_tmb_step (enc : α → List Value) (cf : α → α → Int) (tag : α → Nat) (g : Nat) (cb : Array Value) (blk off cap L a m b mid lo hi : Nat) (A M B : Int) (d0 d : Array α) (w0 w : World)
    (eg : ∀ args w, (callFunc g args).run Tryz.prog w = .ok (.enter g args) w) (hO : SWO (ltOf cf)) (hcmp : CmpLays Tryz.prog g cb enc 3 cf blk off d0.size w0) (R : RowT enc w0 blk off d0) (hs : d0.size = d.size) (S : SWK enc 3 w0 blk off d w)
    (hL : d.size = L) (hA : A = (a : Int)) (hM : M = (m : Int)) (hB : B = (b : Int)) (ham : a + 1 < m) (hbm : m + 1 < b) (hb : b ≤ d.size) (hsz : d.size < 1152921504606846976) (hR : Runs (ltOf cf) tag a m b d)
    (hmid : mid = (a + b) / 2) (hcase : (mid < m ∧ lo + b = mid + m ∧ hi = mid) ∨ (m ≤ mid ∧ lo = a ∧ hi = m))
    (ih : Hid (∀ (a' m' b' : Nat) (d' : Array α) (w' : World) (A' M' B' : Int), b' - a' < b - a → a' < m' → m' < b' → b' ≤ d'.size → d'.size = d.size → Runs (ltOf cf) tag a' m' b' d' → SWK enc 3 w0 blk off d' w' → A' = (a' : Int) → M' = (m' : Int) → B' = (b' : Int) →
      Calls Tryz.prog 128 #[.slice (some ⟨blk, off, none⟩) L cap, .int .i64 A', .int .i64 M', .int .i64 B', .func (.func g) #[] cb] w' fun e w'' =>
      e = .returned (.tuple #[]) ∧ ∃ d'', SWK enc 3 w0 blk off d'' w'' ∧ PermIn a' b' d' d'' ∧ SortedR (ltOf cf) tag a' b' d'')) :
    Calls Tryz.prog 128 #[.slice (some ⟨blk, off, none⟩) L cap, .int .i64 A, .int .i64 M, .int .i64 B, .func (.func g) #[] cb] w fun e w' =>
      e = .returned (.tuple #[]) ∧ ∃ d', SWK enc 3 w0 blk off d' w' ∧ PermIn a b d d' ∧ SortedR (ltOf cf) tag a b d' := by
  subst hL hA hM hB
  have mixed : Tryz.prog.follows .mixedOrders = true := by kernel_rfl
  have HC : Aside _ := hcmp
  have HR := Lib.hid hR
  have S0 : Aside (SWK enc 3 w0 blk off d w) := S
  clear S hcmp hR
  have z1 : ((m : Int) - (a : Int) == 1) = false := by rw [beq_eq_false_iff_ne]; omega
  have z2 : ((b : Int) - (m : Int) == 1) = false := by rw [beq_eq_false_iff_ne]; omega
  obtain ⟨nn, hnn⟩ : ∃ nn, nn = mid + m := ⟨_, rfl⟩
  have Hmid := Lib.hid hmid
  have Hnn := Lib.hid hnn
  have b1 : a < mid := by omega
  have b2 : mid < b := by omega
  have l1 : a ≤ lo := by omega
  have l2 : lo ≤ hi := by omega
  have l3 : hi ≤ m := by omega
  have l4 : hi ≤ mid := by omega
  have l5 : nn ≤ lo + b := by omega
  have l6 : mid + hi ≤ nn := by omega
  have l7 : m + hi ≤ nn := by omega
  have l8 : nn < b + b := by omega
  have Hcase := Lib.hid hcase
  clear hmid hnn hcase
  go_enter Tryz.func128, Tryz.ntmps128
  go_upto_if 140 with (fail)
  go_cut [18, 19, 20, 21] from 129 (fun s18 s19 s20 s21 wc => s18 = .int .i64 mid ∧ s19 = .int .i64 nn ∧ s20 = .int .i64 lo ∧ s21 = .int .i64 hi ∧ wc = w)
  case first =>
    have hm := Hmid.out
    have hn := Hnn.out
    rcases Hcase.out with ⟨h1, h2, h3⟩ | ⟨h1, h2, h3⟩
    · have q : ((a : Int) + (b : Int)) / 2 < (m : Int) := by omega
      have HH := Lib.hid (And.intro hm (And.intro hn (And.intro h2 h3)))
      clear hm hn h1 h2 h3
      go_wp2
      go_meet
      obtain ⟨hm, hn, h2, h3⟩ := HH.out
      exact ⟨by congr 1; omega, by congr 1; omega, by congr 1; omega, by congr 1; omega, rfl⟩
    · have q : ¬ ((a : Int) + (b : Int)) / 2 < (m : Int) := by omega
      have HH := Lib.hid (And.intro hm (And.intro hn (And.intro h2 h3)))
      clear hm hn h1 h2 h3
      go_wp2
      go_meet
      obtain ⟨hm, hn, h2, h3⟩ := HH.out
      exact ⟨by congr 1; omega, by congr 1; omega, by congr 1; omega, by congr 1; omega, rfl⟩
  case rest =>
    obtain ⟨rfl, rfl, rfl, rfl, rfl⟩ := hcut
    go_wp2
    go_loopg [20, 21] (hi - lo) (fun g1 vi vj wr => ∃ i j : Nat, vi = .int .i64 i ∧ vj = .int .i64 j ∧ lo ≤ i ∧ i ≤ j ∧ j ≤ hi ∧ j - i ≤ g1 ∧ Hid (lo < i → ltOf cf d[nn - i]! d[i - 1]! = false) ∧ Hid (j < hi → ltOf cf d[nn - 1 - j]! d[j]! = true) ∧ Aside (SWK enc 3 w0 blk off d wr))
    case atStart => exact ⟨lo, hi, rfl, rfl, Nat.le_refl _, l2, Nat.le_refl _, Nat.le_refl _, (show Hid _ from fun h => by omega), (show Hid _ from fun h => by omega), S0⟩
    case round =>
      clear S0
      obtain ⟨i, j, rfl, rfl, hmi, hij, hjb, hg1, HI, HJ, S1⟩ := hrel
      by_cases hlt : i < j
      · have hz : (i : Int) < (j : Int) := by omega
        obtain ⟨h, hh⟩ : ∃ h, h = (i + j) / 2 := ⟨_, rfl⟩
        have hi1 : i ≤ h := by omega
        have hi2 : h < j := by omega
        obtain ⟨hN, hhN⟩ : ∃ q, q = h := ⟨_, rfl⟩
        obtain ⟨pN, hpN⟩ : ∃ q, q = nn - 1 - h := ⟨_, rfl⟩
        have eh : (((i : Int) + (j : Int)) / 2).toNat = hN := by omega
        have ph : (0 : Int) ≤ ((i : Int) + (j : Int)) / 2 := by omega
        have bh : ((i : Int) + (j : Int)) / 2 < (d.size : Int) := by omega
        have ep : ((nn : Int) - 1 - ((i : Int) + (j : Int)) / 2).toNat = pN := by omega
        have pp : (0 : Int) ≤ (nn : Int) - 1 - ((i : Int) + (j : Int)) / 2 := by omega
        have pp2 : ((i : Int) + (j : Int)) / 2 ≤ (nn : Int) - 1 := by omega
        have bp : (nn : Int) - 1 - ((i : Int) + (j : Int)) / 2 < (d.size : Int) := by omega
        have rp : IntKind.i64.wrap ((nn : Int) - 1 - ((i : Int) + (j : Int)) / 2) = (nn : Int) - 1 - ((i : Int) + (j : Int)) / 2 := by rw [IntKind.wrap_i64]; omega
        obtain ⟨x, hx⟩ : ∃ x, x = d[nn - 1 - h]! := ⟨_, rfl⟩
        obtain ⟨y, hy⟩ : ∃ x, x = d[h]! := ⟨_, rfl⟩
        obtain ⟨xA, xn, xc, x1, x2, hex⟩ := R.three x
        obtain ⟨yA, yn, yc, y1, y2, hey⟩ := R.three y
        have la0 := S1.out.cl3 R (by omega) (nn - 1 - h) (by omega) (hx ▸ hex)
        have lb0 := S1.out.cl3 R (by omega) h (by omega) (hy ▸ hey)
        have la := fun n os => (la0 n os).1
        have la1 := fun n os => (la0 n os).2.1
        have la2 := fun n os => (la0 n os).2.2
        have lb := fun n os => (lb0 n os).1
        have lb1 := fun n os => (lb0 n os).2.1
        have lb2 := fun n os => (lb0 n os).2.2
        clear la0 lb0
        rw [← hpN] at la la1 la2
        rw [← hhN] at lb lb1 lb2
        have hc := S1.out.cmp HC.out (by omega) x y
        rw [hex, hey] at hc
        have Hx := Lib.hid hx
        have Hy := Lib.hid hy
        have Hh := Lib.hid hh
        have hne : nn - (h + 1) = nn - 1 - h := by omega
        have Hne := Lib.hid hne
        clear hx hy hhN hh hex hey hpN hne
        cases hlv : decide (cf x y < 0) with
        | true =>
          have hv : cf x y < 0 := of_decide_eq_true hlv
          go_wp2_with fail
          go_quiet_grown (first | (go_at_fn g; refine Calls.grown_of (hc _ _)))
          have S2 : Aside (SWK enc 3 w0 blk off d (grow (wr.drewN nq) osq)) := S1.out.grown nq osq
          clear la la1 la2 lb lb1 lb2 hc S1
          generalize grow (wr.drewN nq) osq = w2 at S2 ⊢
          clear nq osq eh ep rp
          go_wp2
          go_roundg (h - i)
          case measure => omega
          case rel => exact ⟨i, h, rfl, (by have := Hh.out; congr 1; omega), hmi, hi1, by omega, Nat.le_refl _, HI, (show Hid _ from fun _ => by rw [← Hx.out, ← Hy.out]; exact hlv), S2⟩
        | false =>
          have hv : ¬ cf x y < 0 := of_decide_eq_false hlv
          go_wp2_with fail
          go_quiet_grown (first | (go_at_fn g; refine Calls.grown_of (hc _ _)))
          have S2 : Aside (SWK enc 3 w0 blk off d (grow (wr.drewN nq) osq)) := S1.out.grown nq osq
          clear la la1 la2 lb lb1 lb2 hc S1
          generalize grow (wr.drewN nq) osq = w2 at S2 ⊢
          clear nq osq eh ep rp
          go_wp2
          go_roundg (j - (h + 1))
          case measure => omega
          case rel => exact ⟨h + 1, j, (by have := Hh.out; congr 1; omega), rfl, by omega, by omega, hjb, Nat.le_refl _, (show Hid _ from fun _ => by rw [Nat.add_sub_cancel, Hne.out, ← Hx.out, ← Hy.out]; exact hlv), HJ, S2⟩
      · have hz : ¬ (i : Int) < (j : Int) := by omega
        obtain rfl : i = j := by omega
        obtain ⟨e, he⟩ : ∃ e, e = nn - i := ⟨_, rfl⟩
        have e1 : m ≤ e := by omega
        have e2 : e ≤ b := by omega
        have e3 : i + e = nn := by omega
        have hc1 : a < i → e < b → ltOf cf d[e]! d[i - 1]! = false := fun h1 h2 => by
          rw [he]
          exact HI.out (by rcases Hcase.out with ⟨q1, q2, q3⟩ | ⟨q1, q2, q3⟩ <;> (have := Hnn.out; omega))
        have hc2 : i < m → m < e → ltOf cf d[e - 1]! d[i]! = true := fun h1 h2 => by
          have := HJ.out (by rcases Hcase.out with ⟨q1, q2, q3⟩ | ⟨q1, q2, q3⟩ <;> (have := Hnn.out; omega))
          rwa [show e - 1 = nn - 1 - i by omega]
        have hcut := merge_cut hO (mid := mid) hb HR.out (by omega) (by omega) e1 e2 (by have := Hnn.out; omega) hc1 hc2
        have HCUT := Lib.hid hcut
        have hp1 := rotA_permIn d i m e a b (by omega) (by omega) e1 e2 hb
        have HP1 := Lib.hid hp1
        have He := Lib.hid he
        have e4 : e ≤ mid + (m - i) := by have := Hnn.out; omega
        have e5 : mid + (m - i) ≤ e := by have := Hnn.out; omega
        have z3 : (nn : Int) - (i : Int) = (e : Int) := by omega
        have Z3 := Lib.hid z3
        clear hc1 hc2 hcut hp1 he HI HJ e3 z3
        go_upto_region 39 with (fail)
        go_cut [185] from 178 (fun s185 wc => s185 = .bool (decide (i < m ∧ m < e)) ∧ wc = wr)
        case first =>
          by_cases q1 : i < m
          · have q1z : (i : Int) < (m : Int) := by omega
            by_cases q2 : m < e
            · have q3 : (m : Int) < (nn : Int) - (i : Int) := by have := Z3.out; omega
              go_wp2
              go_meet
              exact ⟨by rw [decide_eq_true (show i < m ∧ m < e from ⟨q1, q2⟩)], rfl⟩
            · have q3 : ¬ (m : Int) < (nn : Int) - (i : Int) := by have := Z3.out; omega
              go_wp2
              go_meet
              exact ⟨by rw [decide_eq_false (show ¬ (i < m ∧ m < e) from fun h => q2 h.2)], rfl⟩
          · have q3 : ¬ (i : Int) < (m : Int) := by omega
            go_wp2
            go_meet
            exact ⟨by rw [decide_eq_false (show ¬ (i < m ∧ m < e) from fun h => q1 h.1)], rfl⟩
        case rest =>
        obtain ⟨rfl, rfl⟩ := hcut
        obtain ⟨bb, hbb⟩ : ∃ bb, bb = decide (i < m ∧ m < e) := ⟨_, rfl⟩
        rw [← hbb]
        have Hbb := Lib.hid hbb
        clear hbb
        go_upto_if 185 with (fail)
        go_cut [24] from 175 (fun s24 wc => s24 = .int .i64 e ∧ Aside (SWK enc 3 w0 blk off (rotA d i m e) wc))
        case first =>
          cases bb with
          | true =>
            have q := of_decide_eq_true Hbb.out.symm
            have q1 := q.1
            have q2 := q.2
            clear q
            go_wp2_with fail
            refine (rotate_tmb enc blk off cap _ i m e _ _ _ _ d0 d w0 _ R hs S1.out rfl rfl rfl Z3.out q1 q2 (by omega) (by omega)).mono ?_
            rintro e' w' ⟨rfl, S2⟩
            go_wp2
            go_meet
            exact ⟨by rw [Z3.out], S2⟩
          | false =>
            have q := of_decide_eq_false Hbb.out.symm
            have hrot : rotA d i m e = d := by
              by_cases q1 : i < m
              · rw [show e = m by omega, rotA_none]
              · rw [show i = m by omega, rotA_none']
            have Hrot := Lib.hid hrot
            clear hrot q
            go_wp2
            go_meet
            exact ⟨by rw [Z3.out], (show Aside (SWK _ _ _ _ _ _ _) from by rw [Hrot.out]; exact S1.out)⟩
        case rest =>
        clear S1
        obtain ⟨rfl, S2⟩ := hcut
        obtain ⟨r1, r2, r3⟩ := HCUT.out
        have hs1 : (rotA d i m e).size = d.size := size_rotA _ _ _ _
        generalize hd1 : rotA d i m e = d1 at *
        have R1 := Lib.hid r1
        have R2 := Lib.hid r2
        have R3 := Lib.hid r3
        have Hs1 := Lib.hid hs1
        clear r1 r2 r3 hs1 hd1 HCUT Z3 He
        go_upto_region 41 with (fail)
        go_cut [199] from 192 (fun sx wd => sx = .bool (decide (a < i ∧ i < mid)) ∧ wd = wc)
        case first =>
          by_cases q1 : a < i
          · have q1z : (a : Int) < (i : Int) := by omega
            by_cases q2 : i < mid
            · have q3 : (i : Int) < (mid : Int) := by omega
              go_wp2
              go_meet
              exact ⟨by rw [decide_eq_true (show a < i ∧ i < mid from ⟨q1, q2⟩)], rfl⟩
            · have q3 : ¬ (i : Int) < (mid : Int) := by omega
              go_wp2
              go_meet
              exact ⟨by rw [decide_eq_false (show ¬ (a < i ∧ i < mid) from fun h => q2 h.2)], rfl⟩
          · have q3 : ¬ (a : Int) < (i : Int) := by omega
            go_wp2
            go_meet
            exact ⟨by rw [decide_eq_false (show ¬ (a < i ∧ i < mid) from fun h => q1 h.1)], rfl⟩
        case rest =>
        obtain ⟨rfl, rfl⟩ := hcut
        obtain ⟨bb, hbb⟩ : ∃ bb, bb = decide (a < i ∧ i < mid) := ⟨_, rfl⟩
        rw [← hbb]
        have Hbb := Lib.hid hbb
        clear hbb
        go_upto_if 199 with (fail)
        go_cut [] from 192 (fun wd => ∃ d2 : Array α, Aside (SWK enc 3 w0 blk off d2 wd) ∧ Hid (PermIn a mid d1 d2 ∧ SortedR (ltOf cf) tag a mid d2))
        case first =>
          cases bb with
          | true =>
            have q := of_decide_eq_true Hbb.out.symm
            have q1 := q.1
            have q2 := q.2
            clear q
            go_wp2_with fail
            refine (ih.out a i mid d1 _ _ _ _ (by omega) q1 q2 (by have := Hs1.out; omega) Hs1.out R1.out S2.out rfl rfl rfl).mono ?_
            rintro e' w' ⟨rfl, d2, S3, p2, s2⟩
            have S4 : Aside _ := S3
            have P2 := Lib.hid (And.intro p2 s2)
            clear S3 p2 s2
            go_wp2
            go_meet
            exact ⟨d2, S4, P2.out⟩
          | false =>
            have q := of_decide_eq_false Hbb.out.symm
            have hsrt : SortedR (ltOf cf) tag a mid d1 := R1.out.whole hO fun h1 h2 => absurd (And.intro h1 h2) q
            have HSRT := Lib.hid hsrt
            clear hsrt q
            go_wp2
            go_meet
            exact ⟨d1, S2, permIn_refl _ _ _, HSRT.out⟩
        case rest =>
        clear S2 Hbb bb
        obtain ⟨d2, S3, P2⟩ := hcut
        go_upto_region 43 with (fail)
        go_cut [213] from 206 (fun sx wd => sx = .bool (decide (mid < e ∧ e < b)) ∧ wd = wc)
        case first =>
          by_cases q1 : mid < e
          · have q1z : (mid : Int) < (e : Int) := by omega
            by_cases q2 : e < b
            · have q3 : (e : Int) < (b : Int) := by omega
              go_wp2
              go_meet
              exact ⟨by rw [decide_eq_true (show mid < e ∧ e < b from ⟨q1, q2⟩)], rfl⟩
            · have q3 : ¬ (e : Int) < (b : Int) := by omega
              go_wp2
              go_meet
              exact ⟨by rw [decide_eq_false (show ¬ (mid < e ∧ e < b) from fun h => q2 h.2)], rfl⟩
          · have q3 : ¬ (mid : Int) < (e : Int) := by omega
            go_wp2
            go_meet
            exact ⟨by rw [decide_eq_false (show ¬ (mid < e ∧ e < b) from fun h => q1 h.1)], rfl⟩
        case rest =>
        obtain ⟨rfl, rfl⟩ := hcut
        obtain ⟨bb, hbb⟩ : ∃ bb, bb = decide (mid < e ∧ e < b) := ⟨_, rfl⟩
        rw [← hbb]
        have Hbb := Lib.hid hbb
        clear hbb
        go_upto_if 213 with (fail)
        cases bb with
        | true =>
          have q := of_decide_eq_true Hbb.out.symm
          have q1 := q.1
          have q2 := q.2
          clear q
          have sz2 : d2.size = d.size := by rw [P2.out.1.1, Hs1.out]
          have SZ2 := Lib.hid sz2
          have r2' := R2.out.behind P2.out.1 (Nat.le_refl _) (by omega)
          have R2' := Lib.hid r2'
          clear r2' sz2
          go_wp2_with fail
          refine (ih.out mid e b d2 _ _ _ _ (by omega) q1 q2 (by have := SZ2.out; omega) SZ2.out R2'.out S3.out rfl rfl rfl).mono ?_
          rintro e' w' ⟨rfl, d3, S4, p3, s3⟩
          have P3 := Lib.hid (And.intro p3 s3)
          have S5 : Aside _ := S4
          clear S4 p3 s3
          go_wp2
          go_end0
          refine ⟨rfl, d3, S5.out, ?_, merge_done (by have := Hs1.out; omega) P2.out.1 P3.out.1 P2.out.2 P3.out.2 R3.out⟩
          exact permIn_trans _ _ _ _ _ HP1.out (permIn_trans _ _ _ _ _ (permIn_mono _ _ _ _ _ _ (Nat.le_refl _) (by omega) (by have := Hs1.out; omega) P2.out.1) (permIn_mono _ _ _ _ _ _ (by omega) (Nat.le_refl _) (by have := SZ2.out; omega) P3.out.1))
        | false =>
          have q := of_decide_eq_false Hbb.out.symm
          have r2' := R2.out.behind P2.out.1 (Nat.le_refl _) (by omega)
          have hsrt : SortedR (ltOf cf) tag mid b d2 := r2'.whole hO fun h1 h2 => absurd (And.intro h1 h2) q
          have HSRT := Lib.hid hsrt
          clear hsrt q r2'
          go_wp2
          go_end0
          refine ⟨rfl, d2, S3.out, ?_, merge_done (by have := Hs1.out; omega) P2.out.1 (permIn_refl _ _ _) P2.out.2 HSRT.out R3.out⟩
          exact permIn_trans _ _ _ _ _ HP1.out (permIn_mono _ _ _ _ _ _ (Nat.le_refl _) (by omega) (by have := Hs1.out; omega) P2.out.1)
end Go.Proofs.YtihidnmpngeohaaGreat
