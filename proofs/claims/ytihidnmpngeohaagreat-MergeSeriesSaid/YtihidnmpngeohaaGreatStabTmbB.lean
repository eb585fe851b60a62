/-  -/
import Derived.Test.YtihidnmpngeohaaGreatG18
namespace Go.Proofs.YtihidnmpngeohaaGreat
open Go.RowKit Go.Lib Go.Sort
variable {α : Type} [Inhabited α]
set_option maxHeartbeats 1000000 in
set_option maxRecDepth 1000000 in
theorem symMerge_tmb_left (enc : α → List Value) (cf : α → α → Int) (tag : α → Nat) (g : Nat) (cb : Array Value) (blk off cap L a m b : Nat) (A M B : Int) (d0 d : Array α) (w0 w : World)
    (eg : ∀ args w, (callFunc g args).run Tryz.prog w = .ok (.enter g args) w) (hO : SWO (ltOf cf)) (hcmp : CmpLays Tryz.prog g cb enc 3 cf blk off d0.size w0) (R : RowT enc w0 blk off d0) (hs : d0.size = d.size) (S : SWK enc 3 w0 blk off d w)
    (hL : d.size = L) (hA : A = (a : Int)) (hM : M = (m : Int)) (hB : B = (b : Int)) (hm : m = a + 1) (hmb : m < b) (hb : b ≤ d.size) (hsz : d.size < 2305843009213693952) (hR : Runs (ltOf cf) tag a m b d) :
    Calls Tryz.prog 128 #[.slice (some ⟨blk, off, none⟩) L cap, .int .i64 A, .int .i64 M, .int .i64 B, .func (.func g) #[] cb] w fun e w' =>
      e = .returned (.tuple #[]) ∧ ∃ d', SWK enc 3 w0 blk off d' w' ∧ PermIn a b d d' ∧ SortedR (ltOf cf) tag a b d' := by
  subst hL hA hM hB
  have mixed : Tryz.prog.follows .mixedOrders = true := by kernel_rfl
  have HC : Aside _ := hcmp
  have HR := Lib.hid hR
  have S0 : Aside (SWK enc 3 w0 blk off d w) := S
  clear S hcmp hR
  have z1 : ((m : Int) - (a : Int) == 1) = true := by rw [beq_iff_eq]; omega
  have Hm := Lib.hid hm
  have hm' : a < m := by omega
  clear hm
  go_enter Tryz.func128, Tryz.ntmps128
  go_wp2
  go_loopg [10, 11] (b - m) (fun g1 vi vj wr => ∃ i j : Nat, vi = .int .i64 i ∧ vj = .int .i64 j ∧ m ≤ i ∧ i ≤ j ∧ j ≤ b ∧ j - i ≤ g1 ∧ Hid (m < i → ltOf cf d[i - 1]! d[a]! = true) ∧ Hid (j < b → ltOf cf d[j]! d[a]! = false) ∧ Aside (SWK enc 3 w0 blk off d wr))
  case atStart => exact ⟨m, b, rfl, rfl, Nat.le_refl _, by omega, Nat.le_refl _, Nat.le_refl _, (show Hid _ from fun h => by omega), (show Hid _ from fun h => by omega), S0⟩
  case round =>
    clear S0
    obtain ⟨i, j, rfl, rfl, hmi, hij, hjb, hg1, HI, HJ, S1⟩ := hrel
    by_cases hlt : i < j
    · have hz : (i : Int) < (j : Int) := by omega
      obtain ⟨h, hh⟩ : ∃ h, h = (i + j) / 2 := ⟨_, rfl⟩
      have hi1 : i ≤ h := by omega
      have hi2 : h < j := by omega
      obtain ⟨hN, hhN⟩ : ∃ q, q = h := ⟨_, rfl⟩
      have eh : (((i : Int) + (j : Int)) / 2).toNat = hN := by omega
      have ph : (0 : Int) ≤ ((i : Int) + (j : Int)) / 2 := by omega
      have bh : ((i : Int) + (j : Int)) / 2 < (d.size : Int) := by omega
      have ba : (a : Int) < (d.size : Int) := by omega
      obtain ⟨x, hx⟩ : ∃ x, x = d[h]! := ⟨_, rfl⟩
      obtain ⟨y, hy⟩ : ∃ x, x = d[a]! := ⟨_, rfl⟩
      obtain ⟨xA, xn, xc, x1, x2, hex⟩ := R.three x
      obtain ⟨yA, yn, yc, y1, y2, hey⟩ := R.three y
      have la0 := S1.out.cl3 R (by omega) h (by omega) (hx ▸ hex)
      have lb0 := S1.out.cl3 R (by omega) a (by omega) (hy ▸ hey)
      have la := fun n os => (la0 n os).1
      have la1 := fun n os => (la0 n os).2.1
      have la2 := fun n os => (la0 n os).2.2
      have lb := fun n os => (lb0 n os).1
      have lb1 := fun n os => (lb0 n os).2.1
      have lb2 := fun n os => (lb0 n os).2.2
      clear la0 lb0
      rw [← hhN] at la la1 la2
      skip
      have hc := S1.out.cmp HC.out (by omega) x y
      rw [hex, hey] at hc
      have Hx := Lib.hid hx
      have Hy := Lib.hid hy
      have HhN := Lib.hid hhN
      have Hh := Lib.hid hh
      clear hx hy hhN hh hex hey
      cases hlv : decide (cf x y < 0) with
      | true =>
        have hv : cf x y < 0 := of_decide_eq_true hlv
        go_wp2_with fail
        go_quiet_grown (first | (go_at_fn g; refine Calls.grown_of (hc _ _)))
        have S2 : Aside (SWK enc 3 w0 blk off d (grow (wr.drewN nq) osq)) := S1.out.grown nq osq
        clear la la1 la2 lb lb1 lb2 hc S1
        generalize grow (wr.drewN nq) osq = w2 at S2 ⊢
        clear nq osq eh
        go_wp2
        go_roundg (j - (h + 1))
        case measure => omega
        case rel => exact ⟨h + 1, j, (by have := Hh.out; congr 1; omega), rfl, by omega, by omega, hjb, Nat.le_refl _, (show Hid _ from fun _ => by rw [Nat.add_sub_cancel, ← Hx.out, ← Hy.out]; exact hlv), HJ, S2⟩
      | false =>
        have hv : ¬ cf x y < 0 := of_decide_eq_false hlv
        go_wp2_with fail
        go_quiet_grown (first | (go_at_fn g; refine Calls.grown_of (hc _ _)))
        have S2 : Aside (SWK enc 3 w0 blk off d (grow (wr.drewN nq) osq)) := S1.out.grown nq osq
        clear la la1 la2 lb lb1 lb2 hc S1
        generalize grow (wr.drewN nq) osq = w2 at S2 ⊢
        clear nq osq eh
        go_wp2
        go_roundg (h - i)
        case measure => omega
        case rel => exact ⟨i, h, rfl, (by have := Hh.out; congr 1; omega), hmi, hi1, by omega, Nat.le_refl _, HI, (show Hid _ from fun _ => by rw [← Hx.out, ← Hy.out]; exact hlv), S2⟩
    · have hz : ¬ (i : Int) < (j : Int) := by omega
      obtain rfl : i = j := by omega
      have hS1 := merge_one_left hO (d := d) (tag := tag) hb (by have := Hm.out; rw [← this]; exact HR.out) (by omega) hjb HJ.out (fun h => HI.out (by have := Hm.out; omega))
      have HS := Lib.hid hS1
      clear hS1
      go_wp2
      go_loopg [13] (i - a) (fun g1 vk wr => ∃ k : Nat, vk = .int .i64 k ∧ a ≤ k ∧ k + 1 ≤ i ∧ i - k ≤ g1 ∧ Aside (SWK enc 3 w0 blk off (rotA d a (a + 1) (k + 1)) wr))
      case atStart => exact ⟨a, rfl, Nat.le_refl _, by omega, Nat.le_refl _, (show Aside (SWK _ _ _ _ _ _ _) from by rw [rotA_none]; exact S1.out)⟩
      case round =>
        clear S1
        obtain ⟨k, rfl, hak, hki, hg2, S2⟩ := hrel
        by_cases hlt2 : k + 1 < i
        · have hz2 : (k : Int) < (i : Int) - 1 := by omega
          obtain ⟨c, hc⟩ : ∃ c, c = rotA d a (a + 1) (k + 1) := ⟨_, rfl⟩
          have hsc : c.size = d.size := by rw [hc]; exact size_rotA _ _ _ _
          have hsw : swp c k (k + 1) = rotA d a (a + 1) (k + 1 + 1) := by rw [hc]; exact rotA_up d a (k + 1) (by omega) (by omega)
          rw [← hc] at S2
          obtain ⟨x, hx⟩ : ∃ x, x = c[k]! := ⟨_, rfl⟩
          obtain ⟨y, hy⟩ : ∃ x, x = c[k + 1]! := ⟨_, rfl⟩
          obtain ⟨iN, hiN⟩ : ∃ q, q = k := ⟨_, rfl⟩
          obtain ⟨jN, hjN⟩ : ∃ q, q = k + 1 := ⟨_, rfl⟩
          have ea : ((k : Int)).toNat = iN := by omega
          have pa : (0 : Int) ≤ (k : Int) := by omega
          have ba : (k : Int) < (d.size : Int) := by omega
          have ec : ((k : Int) + 1).toNat = jN := by omega
          have pc : (0 : Int) ≤ (k : Int) + 1 := by omega
          have bc : (k : Int) + 1 < (d.size : Int) := by omega
          have rc : IntKind.i64.wrap ((k : Int) + 1) = (k : Int) + 1 := by rw [IntKind.wrap_i64]; omega
          obtain ⟨xA, xn, xc, x1, x2, hex⟩ := R.three x
          obtain ⟨yA, yn, yc, y1, y2, hey⟩ := R.three y
          have S3 : Aside (SWK enc 3 w0 blk off (rotA d a (a + 1) (k + 1 + 1)) (((((((wr.setCell ⟨blk, off + iN * 3, none⟩ (.slice yA yn yc)).setCell ⟨blk, off + iN * 3 + 1, none⟩ (.int .i64 y1)).setCell ⟨blk, off + iN * 3 + 2, none⟩ (.int .i64 y2)).setCell ⟨blk, off + jN * 3, none⟩ (.slice xA xn xc)).setCell ⟨blk, off + jN * 3 + 1, none⟩ (.int .i64 x1)).setCell ⟨blk, off + jN * 3 + 2, none⟩ (.int .i64 x2)).drew)) := by
            have := S2.out.swapped3 R k (k + 1) (by omega) (by omega) (hx ▸ hex) (hy ▸ hey)
            rw [hsw] at this
            simp only [World.setCell_drew] at this
            rw [hiN, hjN]; exact this
          obtain ⟨ca0, ca1, ca2, fa0, fa1, fa2⟩ := S2.out.cells3 R (by omega) k (by omega) (hx ▸ hex)
          obtain ⟨cb0, cb1, cb2, fb0, fb1, fb2⟩ := S2.out.cells3 R (by omega) (k + 1) (by omega) (hy ▸ hey)
          rw [← hiN] at ca0 ca1 ca2 fa0 fa1 fa2
          rw [← hjN] at cb0 cb1 cb2 fb0 fb1 fb2
          have hne : iN * 3 + 2 < jN * 3 ∨ jN * 3 + 2 < iN * 3 := by omega
          clear S2 hx hy hex hey hiN hjN hc hsc hsw
          go_wp2_with fail
          go_big_region
          clear ca0 ca1 ca2 cb0 cb1 cb2 fa0 fa1 fa2 fb0 fb1 fb2 hne
          generalize (((((((wr.setCell ⟨blk, off + iN * 3, none⟩ (.slice yA yn yc)).setCell ⟨blk, off + iN * 3 + 1, none⟩ (.int .i64 y1)).setCell ⟨blk, off + iN * 3 + 2, none⟩ (.int .i64 y2)).setCell ⟨blk, off + jN * 3, none⟩ (.slice xA xn xc)).setCell ⟨blk, off + jN * 3 + 1, none⟩ (.int .i64 x1)).setCell ⟨blk, off + jN * 3 + 2, none⟩ (.int .i64 x2)).drew) = w3 at S3 ⊢
          clear ea ec
          go_wp2
          go_roundg (i - (k + 1))
          case measure => omega
          case rel => exact ⟨k + 1, by go_num, by omega, by omega, Nat.le_refl _, S3⟩
        · have hz2 : ¬ (k : Int) < (i : Int) - 1 := by omega
          obtain rfl : i = k + 1 := by omega
          go_wp2
          refine bodyPost_ret (results_none rfl _ _ _) rfl ⟨rfl, _, S2.out, rotA_permIn d a (a + 1) (k + 1) a b (Nat.le_refl _) (by omega) (by omega) hjb hb, HS.out⟩

set_option maxHeartbeats 1000000 in
set_option maxRecDepth 1000000 in
theorem symMerge_tmb_right (enc : α → List Value) (cf : α → α → Int) (tag : α → Nat) (g : Nat) (cb : Array Value) (blk off cap L a m b : Nat) (A M B : Int) (d0 d : Array α) (w0 w : World)
    (eg : ∀ args w, (callFunc g args).run Tryz.prog w = .ok (.enter g args) w) (hO : SWO (ltOf cf)) (hcmp : CmpLays Tryz.prog g cb enc 3 cf blk off d0.size w0) (R : RowT enc w0 blk off d0) (hs : d0.size = d.size) (S : SWK enc 3 w0 blk off d w)
    (hL : d.size = L) (hA : A = (a : Int)) (hM : M = (m : Int)) (hB : B = (b : Int)) (ham : a + 1 < m) (hbm : b = m + 1) (hb : b ≤ d.size) (hsz : d.size < 2305843009213693952) (hR : Runs (ltOf cf) tag a m b d) :
    Calls Tryz.prog 128 #[.slice (some ⟨blk, off, none⟩) L cap, .int .i64 A, .int .i64 M, .int .i64 B, .func (.func g) #[] cb] w fun e w' =>
      e = .returned (.tuple #[]) ∧ ∃ d', SWK enc 3 w0 blk off d' w' ∧ PermIn a b d d' ∧ SortedR (ltOf cf) tag a b d' := by
  subst hL hA hM hB
  have mixed : Tryz.prog.follows .mixedOrders = true := by kernel_rfl
  have HC : Aside _ := hcmp
  have HR := Lib.hid hR
  have S0 : Aside (SWK enc 3 w0 blk off d w) := S
  clear S hcmp hR
  have z1 : ((m : Int) - (a : Int) == 1) = false := by rw [beq_eq_false_iff_ne]; omega
  have z2 : ((b : Int) - (m : Int) == 1) = true := by rw [beq_iff_eq]; omega
  have Hm := Lib.hid hbm
  have hm' : m < b := by omega
  clear hbm
  go_enter Tryz.func128, Tryz.ntmps128
  go_wp2
  go_loopg [14, 15] (m - a) (fun g1 vi vj wr => ∃ i j : Nat, vi = .int .i64 i ∧ vj = .int .i64 j ∧ a ≤ i ∧ i ≤ j ∧ j ≤ m ∧ j - i ≤ g1 ∧ Hid (a < i → ltOf cf d[m]! d[i - 1]! = false) ∧ Hid (j < m → ltOf cf d[m]! d[j]! = true) ∧ Aside (SWK enc 3 w0 blk off d wr))
  case atStart => exact ⟨a, m, rfl, rfl, Nat.le_refl _, by omega, Nat.le_refl _, Nat.le_refl _, (show Hid _ from fun h => by omega), (show Hid _ from fun h => by omega), S0⟩
  case round =>
    clear S0
    obtain ⟨i, j, rfl, rfl, hmi, hij, hjb, hg1, HI, HJ, S1⟩ := hrel
    by_cases hlt : i < j
    · have hz : (i : Int) < (j : Int) := by omega
      obtain ⟨h, hh⟩ : ∃ h, h = (i + j) / 2 := ⟨_, rfl⟩
      have hi1 : i ≤ h := by omega
      have hi2 : h < j := by omega
      obtain ⟨hN, hhN⟩ : ∃ q, q = h := ⟨_, rfl⟩
      have eh : (((i : Int) + (j : Int)) / 2).toNat = hN := by omega
      have ph : (0 : Int) ≤ ((i : Int) + (j : Int)) / 2 := by omega
      have bh : ((i : Int) + (j : Int)) / 2 < (d.size : Int) := by omega
      have ba : (m : Int) < (d.size : Int) := by omega
      obtain ⟨x, hx⟩ : ∃ x, x = d[m]! := ⟨_, rfl⟩
      obtain ⟨y, hy⟩ : ∃ x, x = d[h]! := ⟨_, rfl⟩
      obtain ⟨xA, xn, xc, x1, x2, hex⟩ := R.three x
      obtain ⟨yA, yn, yc, y1, y2, hey⟩ := R.three y
      have la0 := S1.out.cl3 R (by omega) m (by omega) (hx ▸ hex)
      have lb0 := S1.out.cl3 R (by omega) h (by omega) (hy ▸ hey)
      have la := fun n os => (la0 n os).1
      have la1 := fun n os => (la0 n os).2.1
      have la2 := fun n os => (la0 n os).2.2
      have lb := fun n os => (lb0 n os).1
      have lb1 := fun n os => (lb0 n os).2.1
      have lb2 := fun n os => (lb0 n os).2.2
      clear la0 lb0
      skip
      rw [← hhN] at lb lb1 lb2
      have hc := S1.out.cmp HC.out (by omega) x y
      rw [hex, hey] at hc
      have Hx := Lib.hid hx
      have Hy := Lib.hid hy
      have HhN := Lib.hid hhN
      have Hh := Lib.hid hh
      clear hx hy hhN hh hex hey
      cases hlv : decide (cf x y < 0) with
      | true =>
        have hv : cf x y < 0 := of_decide_eq_true hlv
        go_wp2_with fail
        go_quiet_grown (first | (go_at_fn g; refine Calls.grown_of (hc _ _)))
        have S2 : Aside (SWK enc 3 w0 blk off d (grow (wr.drewN nq) osq)) := S1.out.grown nq osq
        clear la la1 la2 lb lb1 lb2 hc S1
        generalize grow (wr.drewN nq) osq = w2 at S2 ⊢
        clear nq osq eh
        go_wp2
        go_roundg (h - i)
        case measure => omega
        case rel => exact ⟨i, h, rfl, (by have := Hh.out; congr 1; omega), hmi, hi1, by omega, Nat.le_refl _, HI, (show Hid _ from fun _ => by rw [← Hx.out, ← Hy.out]; exact hlv), S2⟩
      | false =>
        have hv : ¬ cf x y < 0 := of_decide_eq_false hlv
        go_wp2_with fail
        go_quiet_grown (first | (go_at_fn g; refine Calls.grown_of (hc _ _)))
        have S2 : Aside (SWK enc 3 w0 blk off d (grow (wr.drewN nq) osq)) := S1.out.grown nq osq
        clear la la1 la2 lb lb1 lb2 hc S1
        generalize grow (wr.drewN nq) osq = w2 at S2 ⊢
        clear nq osq eh
        go_wp2
        go_roundg (j - (h + 1))
        case measure => omega
        case rel => exact ⟨h + 1, j, (by have := Hh.out; congr 1; omega), rfl, by omega, by omega, hjb, Nat.le_refl _, (show Hid _ from fun _ => by rw [Nat.add_sub_cancel, ← Hx.out, ← Hy.out]; exact hlv), HJ, S2⟩
    · have hz : ¬ (i : Int) < (j : Int) := by omega
      obtain rfl : i = j := by omega
      have hS1 := merge_one_right hO (d := d) (tag := tag) (m := m) (by have := Hm.out; omega) (by have := Hm.out; rw [← this]; exact HR.out) hmi hjb HI.out HJ.out
      rw [← Hm.out] at hS1
      have HS := Lib.hid hS1
      clear hS1
      go_wp2
      go_loopg [17] (m - i) (fun g1 vk wr => ∃ k : Nat, vk = .int .i64 k ∧ i ≤ k ∧ k ≤ m ∧ k - i ≤ g1 ∧ Aside (SWK enc 3 w0 blk off (rotA d k m b) wr))
      case atStart => exact ⟨m, rfl, hjb, Nat.le_refl _, Nat.le_refl _, (show Aside (SWK _ _ _ _ _ _ _) from by rw [rotA_none']; exact S1.out)⟩
      case round =>
        clear S1
        obtain ⟨k, rfl, hak, hki, hg2, S2⟩ := hrel
        by_cases hlt2 : i < k
        · have hz2 : (i : Int) < (k : Int) := by omega
          obtain ⟨kp, hkp⟩ : ∃ q, q + 1 = k := ⟨k - 1, by omega⟩
          subst hkp
          have hz3 : (i : Int) < (kp : Int) + 1 := by omega
          obtain ⟨c, hc⟩ : ∃ c, c = rotA d (kp + 1) m b := ⟨_, rfl⟩
          have hsc : c.size = d.size := by rw [hc]; exact size_rotA _ _ _ _
          have hsw : swp c (kp + 1) kp = rotA d kp m b := by rw [hc, Hm.out]; exact rotA_down d (kp + 1) m (by omega) (by omega) (by omega)
          rw [← hc] at S2
          obtain ⟨x, hx⟩ : ∃ x, x = c[kp + 1]! := ⟨_, rfl⟩
          obtain ⟨y, hy⟩ : ∃ x, x = c[kp]! := ⟨_, rfl⟩
          obtain ⟨iN, hiN⟩ : ∃ q, q = kp + 1 := ⟨_, rfl⟩
          obtain ⟨jN, hjN⟩ : ∃ q, q = kp := ⟨_, rfl⟩
          have ea : ((kp : Int) + 1).toNat = iN := by omega
          have pa : (0 : Int) ≤ (kp : Int) + 1 := by omega
          have ba : (kp : Int) + 1 < (d.size : Int) := by omega
          have ra : IntKind.i64.wrap ((kp : Int) + 1) = (kp : Int) + 1 := by rw [IntKind.wrap_i64]; omega
          have ec : ((kp : Int)).toNat = jN := by omega
          have pc : (0 : Int) ≤ (kp : Int) := by omega
          have bc : (kp : Int) < (d.size : Int) := by omega
          have rc : IntKind.i64.wrap (kp : Int) = (kp : Int) := by rw [IntKind.wrap_i64]; omega
          obtain ⟨xA, xn, xc, x1, x2, hex⟩ := R.three x
          obtain ⟨yA, yn, yc, y1, y2, hey⟩ := R.three y
          have S3 : Aside (SWK enc 3 w0 blk off (rotA d kp m b) (((((((wr.setCell ⟨blk, off + iN * 3, none⟩ (.slice yA yn yc)).setCell ⟨blk, off + iN * 3 + 1, none⟩ (.int .i64 y1)).setCell ⟨blk, off + iN * 3 + 2, none⟩ (.int .i64 y2)).setCell ⟨blk, off + jN * 3, none⟩ (.slice xA xn xc)).setCell ⟨blk, off + jN * 3 + 1, none⟩ (.int .i64 x1)).setCell ⟨blk, off + jN * 3 + 2, none⟩ (.int .i64 x2)).drew)) := by
            have := S2.out.swapped3 R (kp + 1) kp (by omega) (by omega) (hx ▸ hex) (hy ▸ hey)
            rw [hsw] at this
            simp only [World.setCell_drew] at this
            rw [hiN, hjN]; exact this
          obtain ⟨ca0, ca1, ca2, fa0, fa1, fa2⟩ := S2.out.cells3 R (by omega) (kp + 1) (by omega) (hx ▸ hex)
          obtain ⟨cb0, cb1, cb2, fb0, fb1, fb2⟩ := S2.out.cells3 R (by omega) kp (by omega) (hy ▸ hey)
          rw [← hiN] at ca0 ca1 ca2 fa0 fa1 fa2
          rw [← hjN] at cb0 cb1 cb2 fb0 fb1 fb2
          have hne : iN * 3 + 2 < jN * 3 ∨ jN * 3 + 2 < iN * 3 := by omega
          clear S2 hx hy hex hey hiN hjN hc hsc hsw
          go_wp2_with fail
          go_big_region
          clear ca0 ca1 ca2 cb0 cb1 cb2 fa0 fa1 fa2 fb0 fb1 fb2 hne
          generalize (((((((wr.setCell ⟨blk, off + iN * 3, none⟩ (.slice yA yn yc)).setCell ⟨blk, off + iN * 3 + 1, none⟩ (.int .i64 y1)).setCell ⟨blk, off + iN * 3 + 2, none⟩ (.int .i64 y2)).setCell ⟨blk, off + jN * 3, none⟩ (.slice xA xn xc)).setCell ⟨blk, off + jN * 3 + 1, none⟩ (.int .i64 x1)).setCell ⟨blk, off + jN * 3 + 2, none⟩ (.int .i64 x2)).drew) = w3 at S3 ⊢
          clear ea ec
          go_wp2
          go_roundg (kp - i)
          case measure => omega
          case rel => exact ⟨kp, by first | rfl | go_num | (congr 1; omega), by omega, by omega, Nat.le_refl _, S3⟩
        · have hz2 : ¬ (i : Int) < (k : Int) := by omega
          obtain rfl : i = k := by omega
          go_wp2
          refine bodyPost_ret (results_none rfl _ _ _) rfl ⟨rfl, _, S2.out, rotA_permIn d i m b a b hmi hki (by omega) (Nat.le_refl _) hb, HS.out⟩
end Go.Proofs.YtihidnmpngeohaaGreat
