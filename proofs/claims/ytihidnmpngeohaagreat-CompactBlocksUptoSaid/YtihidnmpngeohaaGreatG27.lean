/-   -/
import Derived.Test.YtihidnmpngeohaaGreatChecked
import Derived.Test.YtihidnmpngeohaaGreatStab
import Derived.WalkKit
import Derived.Lib.Hide
import Derived.BigRegion
import Derived.BigQuiet
import Derived.Outline
import Derived.Shelf.SlSortCmp.KitK
namespace Go.Proofs.YtihidnmpngeohaaGreat
open Go.RowKit Go.Lib Go.Sort
variable {α : Type} [Inhabited α]
/-! What a row of structs of two cells gives at a test and at an exchange -/
/-- A row of structs of two numbers. -/
structure RowS (enc : α → List Value) (w0 : World) (blk off : Nat) (d0 : Array α) : Prop extends RowK enc 2 w0 blk off d0 where
  two : ∀ x, ∃ a b : Int, enc x = [.int .i64 a, .int .u64 b]
section
variable {enc : α → List Value} {w0 W : World} {blk off : Nat} {dk d0 : Array α}
theorem _root_.Go.Proofs.SWK.cells2 (h : SWK enc 2 w0 blk off dk W) (R : RowS enc w0 blk off d0) (hs : dk.size = d0.size) (i : Nat) (hi : i < dk.size) {x0 x1 : Value} (he : enc dk[i]! = [x0, x1]) :
    W.cell? ⟨blk, off + i * 2, none⟩ = some x0 ∧ W.cell? ⟨blk, off + i * 2 + 1, none⟩ = some x1 ∧ W.frozen? ⟨blk, off + i * 2, none⟩ = false ∧ W.frozen? ⟨blk, off + i * 2 + 1, none⟩ = false := by
  have hH : HoldsK enc 2 W blk off dk := h.holds R.hblk R.hH hs
  have h0 := hH (i * 2) (by rw [size_flatK]; omega)
  have h1 := hH (i * 2 + 1) (by rw [size_flatK]; omega)
  rw [get_flatK enc 2 dk _ (by omega), show i * 2 / 2 = i by omega, show i * 2 % 2 = 0 by omega, he] at h0
  rw [get_flatK enc 2 dk _ (by omega), show (i * 2 + 1) / 2 = i by omega, show (i * 2 + 1) % 2 = 1 by omega, he] at h1
  exact ⟨h0.1, h1.1, h0.2, h1.2⟩
theorem _root_.Go.Proofs.SWK.cl2 (h : SWK enc 2 w0 blk off dk W) (R : RowS enc w0 blk off d0) (hs : dk.size = d0.size) (i : Nat) (hi : i < dk.size) {x0 x1 : Value} (he : enc dk[i]! = [x0, x1]) (n : Nat) (os : Array Obj) :
    (grow (W.drewN n) os).cell? ⟨blk, off + i * 2, none⟩ = some x0 ∧ (grow (W.drewN n) os).cell? ⟨blk, off + i * 2 + 1, none⟩ = some x1 :=
  ⟨((h.grown n os).cells2 R hs i hi he).1, ((h.grown n os).cells2 R hs i hi he).2.1⟩
theorem _root_.Go.Proofs.SWK.swapped2 (h : SWK enc 2 w0 blk off dk W) (R : RowS enc w0 blk off d0) (i j : Nat) (hi : i < dk.size) (hj : j < dk.size) {x0 x1 y0 y1 : Value} (hx : enc dk[i]! = [x0, x1]) (hy : enc dk[j]! = [y0, y1]) :
    SWK enc 2 w0 blk off (swp dk i j) ((((W.drew.setCell ⟨blk, off + i * 2, none⟩ y0).setCell ⟨blk, off + i * 2 + 1, none⟩ y1).setCell ⟨blk, off + j * 2, none⟩ x0).setCell ⟨blk, off + j * 2 + 1, none⟩ x1) := by
  have := h.swapped R.toRowK i j hi hj
  rw [hx, hy] at this
  exact this
end
set_option maxHeartbeats 1000000 in
set_option maxRecDepth 1000000 in
theorem swapRange_sam (enc : α → List Value) (blk off cap L a b n : Nat) (A B N : Int) (fv : Value) (d0 d : Array α) (w0 w : World) (R : RowS enc w0 blk off d0) (hs : d0.size = d.size) (S : SWK enc 2 w0 blk off d w)
    (hL : d.size = L) (hA : A = (a : Int)) (hB : B = (b : Int)) (hN : N = (n : Int)) (hab : a + n ≤ b) (hb : b + n ≤ d.size) (hsz : d.size < 4611686018427387904) :
    Calls Tryz.prog 193 #[.slice (some ⟨blk, off, none⟩) L cap, .int .i64 A, .int .i64 B, .int .i64 N, fv] w fun e w' => e = .returned (.tuple #[]) ∧ SWK enc 2 w0 blk off (swapRg d a b n) w' := by
  subst hL hA hB hN
  have mixed : Tryz.prog.follows .mixedOrders = true := by kernel_rfl
  have S0 : Aside (SWK enc 2 w0 blk off d w) := S
  clear S
  go_enter Tryz.func193, Tryz.ntmps193
  go_wp2
  go_loopg [10] n (fun g1 vi wr => ∃ i : Nat, vi = .int .i64 i ∧ i ≤ n ∧ n - i ≤ g1 ∧ Aside (SWK enc 2 w0 blk off (swapRg d a b i) wr))
  case atStart => exact ⟨0, rfl, by omega, by omega, (show Aside (SWK _ _ _ _ _ _ _) from by rw [swapRg_zero]; exact S0.out)⟩
  case round =>
    clear S0
    obtain ⟨i, rfl, hin, hg1, S1⟩ := hrel
    by_cases hlt : i < n
    · have hltz : (i : Int) < (n : Int) := by omega
      have hsd : (swapRg d a b i).size = d.size := size_swapRg _ _ _ _
      obtain ⟨x, hx⟩ : ∃ x, x = (swapRg d a b i)[a + i]! := ⟨_, rfl⟩
      obtain ⟨y, hy⟩ : ∃ x, x = (swapRg d a b i)[b + i]! := ⟨_, rfl⟩
      obtain ⟨iN, hiN⟩ : ∃ q, q = a + i := ⟨_, rfl⟩
      obtain ⟨jN, hjN⟩ : ∃ q, q = b + i := ⟨_, rfl⟩
      have ea : ((a : Int) + (i : Int)).toNat = iN := by omega
      have pa : (0 : Int) ≤ (a : Int) + (i : Int) := by omega
      have ba : (a : Int) + (i : Int) < (d.size : Int) := by omega
      have ra : IntKind.i64.wrap ((a : Int) + (i : Int)) = (a : Int) + (i : Int) := by rw [IntKind.wrap_i64]; omega
      have ec : ((b : Int) + (i : Int)).toNat = jN := by omega
      have pc : (0 : Int) ≤ (b : Int) + (i : Int) := by omega
      have bc : (b : Int) + (i : Int) < (d.size : Int) := by omega
      have rc : IntKind.i64.wrap ((b : Int) + (i : Int)) = (b : Int) + (i : Int) := by rw [IntKind.wrap_i64]; omega
      obtain ⟨x0, x1, hex⟩ := R.two x
      obtain ⟨y0, y1, hey⟩ := R.two y
      have S3 : Aside (SWK enc 2 w0 blk off (swapRg d a b (i + 1)) (((((wr.setCell ⟨blk, off + iN * 2, none⟩ (.int .i64 y0)).setCell ⟨blk, off + iN * 2 + 1, none⟩ (.int .u64 y1)).setCell ⟨blk, off + jN * 2, none⟩ (.int .i64 x0)).setCell ⟨blk, off + jN * 2 + 1, none⟩ (.int .u64 x1)).drew)) := by
        have := S1.out.swapped2 R (a + i) (b + i) (by omega) (by omega) (hx ▸ hex) (hy ▸ hey)
        rw [swapRg_succ d a b i (by omega) (by omega)] at this
        rw [hiN, hjN]; exact this
      obtain ⟨ca0, ca1, fa0, fa1⟩ := S1.out.cells2 R (by omega) (a + i) (by omega) (hx ▸ hex)
      obtain ⟨cb0, cb1, fb0, fb1⟩ := S1.out.cells2 R (by omega) (b + i) (by omega) (hy ▸ hey)
      rw [← hiN] at ca0 ca1 fa0 fa1
      rw [← hjN] at cb0 cb1 fb0 fb1
      have hne : iN * 2 + 1 < jN * 2 ∨ jN * 2 + 1 < iN * 2 := by omega
      clear S1 hx hy hex hey hiN hjN hsd
      go_wp2_with fail
      go_big_region
      clear ca0 ca1 cb0 cb1 fa0 fa1 fb0 fb1 hne
      generalize (((((wr.setCell ⟨blk, off + iN * 2, none⟩ (.int .i64 y0)).setCell ⟨blk, off + iN * 2 + 1, none⟩ (.int .u64 y1)).setCell ⟨blk, off + jN * 2, none⟩ (.int .i64 x0)).setCell ⟨blk, off + jN * 2 + 1, none⟩ (.int .u64 x1)).drew) = w3 at S3 ⊢
      clear ea ec
      go_wp2
      go_roundg (n - (i + 1))
      case measure => omega
      case rel => exact ⟨i + 1, by go_num, by omega, Nat.le_refl _, S3⟩
    · have hltz : ¬ (i : Int) < (n : Int) := by omega
      go_wp2
      go_end0
      obtain rfl : i = n := by omega
      exact ⟨rfl, S1.out⟩

set_option maxHeartbeats 1000000 in
set_option maxRecDepth 1000000 in
theorem rotate_sam (enc : α → List Value) (blk off cap L a m b : Nat) (A M B : Int) (fv : Value) (d0 d : Array α) (w0 w : World) (R : RowS enc w0 blk off d0) (hs : d0.size = d.size) (S : SWK enc 2 w0 blk off d w)
    (hL : d.size = L) (hA : A = (a : Int)) (hM : M = (m : Int)) (hB : B = (b : Int)) (ham : a < m) (hmb : m < b) (hb : b ≤ d.size) (hsz : d.size < 4611686018427387904) :
    Calls Tryz.prog 185 #[.slice (some ⟨blk, off, none⟩) L cap, .int .i64 A, .int .i64 M, .int .i64 B, fv] w fun e w' => e = .returned (.tuple #[]) ∧ SWK enc 2 w0 blk off (rotA d a m b) w' := by
  subst hL hA hM hB
  have S0 : Aside (SWK enc 2 w0 blk off d w) := S
  clear S
  go_enter Tryz.func185, Tryz.ntmps185
  go_wp2
  go_loopg [10, 11] (b - a) (fun g1 vi vj wr => ∃ (i j : Nat) (c : Array α), vi = .int .i64 i ∧ vj = .int .i64 j ∧ 0 < i ∧ 0 < j ∧ i ≤ m - a ∧ j ≤ b - m ∧ i + j ≤ g1 ∧ c.size = d.size ∧ Hid (rotA c (m - i) m (m + j) = rotA d a m b) ∧ Aside (SWK enc 2 w0 blk off c wr))
  case atStart => exact ⟨m - a, b - m, d, by go_num, by go_num, by omega, by omega, Nat.le_refl _, Nat.le_refl _, by omega, rfl, (show Hid _ from by show _ = _; congr 1 <;> omega), S0⟩
  case round =>
    clear S0
    obtain ⟨i, j, c, rfl, rfl, hi0, hj0, hi, hj, hg1, hsc, HR, S1⟩ := hrel
    by_cases hij : i = j
    · subst hij
      have hne2 : ((i : Int) != (i : Int)) = false := by simp
      go_wp2_with fail
      refine (swapRange_sam enc blk off cap _ (m - i) m i _ _ _ _ d0 c w0 _ R (by omega) S1.out hsc (by omega) rfl rfl (by omega) (by omega) (by omega)).mono ?_
      rintro e w' ⟨rfl, S2⟩
      go_wp2
      go_end0
      refine ⟨rfl, ?_⟩
      rw [← HR.out, ← rotA_even c m i (by omega)]
      exact S2
    · have hne2 : ((i : Int) != (j : Int)) = true := by rw [bne_iff_ne]; omega
      by_cases hgt : j < i
      · have hz : (j : Int) < (i : Int) := by omega
        go_wp2_with fail
        refine (swapRange_sam enc blk off cap _ (m - i) m j _ _ _ _ d0 c w0 _ R (by omega) S1.out hsc (by omega) rfl rfl (by omega) (by omega) (by omega)).mono ?_
        rintro e w' ⟨rfl, S2⟩
        have S3 : Aside (SWK enc 2 w0 blk off (swapRg c (m - i) m j) w') := S2
        have HR2 : Hid (rotA (swapRg c (m - i) m j) (m - (i - j)) m (m + j) = rotA d a m b) := (rotA_left c m i j (by omega) hgt (by omega)).trans HR.out
        clear S2 S1 HR
        go_wp2
        go_roundg (i - j + j)
        case measure => omega
        case rel => exact ⟨i - j, j, _, by go_num, rfl, by omega, hj0, by omega, hj, Nat.le_refl _, by rw [size_swapRg]; exact hsc, HR2, S3⟩
      · have hz : ¬ (j : Int) < (i : Int) := by omega
        go_wp2_with fail
        refine (swapRange_sam enc blk off cap _ (m - i) (m + j - i) i _ _ _ _ d0 c w0 _ R (by omega) S1.out hsc (by omega) (by omega) rfl (by omega) (by omega) (by omega)).mono ?_
        rintro e w' ⟨rfl, S2⟩
        have S3 : Aside (SWK enc 2 w0 blk off (swapRg c (m - i) (m + j - i) i) w') := S2
        have HR2 : Hid (rotA (swapRg c (m - i) (m + j - i) i) (m - i) m (m + (j - i)) = rotA d a m b) := (rotA_right c m i j (by omega) (by omega) (by omega)).trans HR.out
        clear S2 S1 HR
        go_wp2
        go_roundg (i + (j - i))
        case measure => omega
        case rel => exact ⟨i, j - i, _, rfl, by go_num, hi0, by omega, hi, by omega, Nat.le_refl _, by rw [size_swapRg]; exact hsc, HR2, S3⟩
end Go.Proofs.YtihidnmpngeohaaGreat
namespace Go.Proofs.YtihidnmpngeohaaGreat
open Go.RowKit Go.Lib Go.Sort
variable {α : Type} [Inhabited α]
set_option maxHeartbeats 1000000 in
set_option maxRecDepth 1000000 in
theorem symMerge_sam_left (enc : α → List Value) (cf : α → α → Int) (tag : α → Nat) (g : Nat) (cb : Array Value) (blk off cap L a m b : Nat) (A M B : Int) (d0 d : Array α) (w0 w : World)
    (eg : ∀ args w, (callFunc g args).run Tryz.prog w = .ok (.enter g args) w) (hO : SWO (ltOf cf)) (hcmp : CmpLays Tryz.prog g cb enc 2 cf blk off d0.size w0) (R : RowS enc w0 blk off d0) (hs : d0.size = d.size) (S : SWK enc 2 w0 blk off d w)
    (hL : d.size = L) (hA : A = (a : Int)) (hM : M = (m : Int)) (hB : B = (b : Int)) (hm : m = a + 1) (hmb : m < b) (hb : b ≤ d.size) (hsz : d.size < 2305843009213693952) (hR : Runs (ltOf cf) tag a m b d) :
    Calls Tryz.prog 163 #[.slice (some ⟨blk, off, none⟩) L cap, .int .i64 A, .int .i64 M, .int .i64 B, .func (.func g) #[] cb] w fun e w' =>
      e = .returned (.tuple #[]) ∧ ∃ d', SWK enc 2 w0 blk off d' w' ∧ PermIn a b d d' ∧ SortedR (ltOf cf) tag a b d' := by
  subst hL hA hM hB
  have mixed : Tryz.prog.follows .mixedOrders = true := by kernel_rfl
  have HC : Aside _ := hcmp
  have HR := Lib.hid hR
  have S0 : Aside (SWK enc 2 w0 blk off d w) := S
  clear S hcmp hR
  have z1 : ((m : Int) - (a : Int) == 1) = true := by rw [beq_iff_eq]; omega
  have Hm := Lib.hid hm
  have hm' : a < m := by omega
  clear hm
  go_enter Tryz.func163, Tryz.ntmps163
  go_wp2
  go_loopg [10, 11] (b - m) (fun g1 vi vj wr => ∃ i j : Nat, vi = .int .i64 i ∧ vj = .int .i64 j ∧ m ≤ i ∧ i ≤ j ∧ j ≤ b ∧ j - i ≤ g1 ∧ Hid (m < i → ltOf cf d[i - 1]! d[a]! = true) ∧ Hid (j < b → ltOf cf d[j]! d[a]! = false) ∧ Aside (SWK enc 2 w0 blk off d wr))
  case atStart => exact ⟨m, b, rfl, rfl, Nat.le_refl _, by omega, Nat.le_refl _, Nat.le_refl _, (show Hid _ from fun h => by omega), (show Hid _ from fun h => by omega), S0⟩
  case round =>
    clear S0
    obtain ⟨i, j, rfl, rfl, hmi, hij, hjb, hg1, HI, HJ, S1⟩ := hrel
    by_cases hlt : i < j
    · have hz : (i : Int) < (j : Int) := by omega
      obtain ⟨h, hh⟩ : ∃ h, h = (i + j) / 2 := ⟨_, rfl⟩
      have hi1 : i ≤ h := by omega
      have hi2 : h < j := by omega
      obtain ⟨hN, hhN⟩ : ∃ q, q = h := ⟨_, rfl⟩
      have eh : (((i : Int) + (j : Int)) / 2).toNat = hN := by omega
      have ph : (0 : Int) ≤ ((i : Int) + (j : Int)) / 2 := by omega
      have bh : ((i : Int) + (j : Int)) / 2 < (d.size : Int) := by omega
      have ba : (a : Int) < (d.size : Int) := by omega
      obtain ⟨x, hx⟩ : ∃ x, x = d[h]! := ⟨_, rfl⟩
      obtain ⟨y, hy⟩ : ∃ x, x = d[a]! := ⟨_, rfl⟩
      obtain ⟨x0, x1, hex⟩ := R.two x
      obtain ⟨y0, y1, hey⟩ := R.two y
      have la0 := S1.out.cl2 R (by omega) h (by omega) (hx ▸ hex)
      have lb0 := S1.out.cl2 R (by omega) a (by omega) (hy ▸ hey)
      have la := fun n os => (la0 n os).1
      have la1 := fun n os => (la0 n os).2
      have lb := fun n os => (lb0 n os).1
      have lb1 := fun n os => (lb0 n os).2
      clear la0 lb0
      rw [← hhN] at la la1
      skip
      have hc := S1.out.cmp HC.out (by omega) x y
      rw [hex, hey] at hc
      have Hx := Lib.hid hx
      have Hy := Lib.hid hy
      have HhN := Lib.hid hhN
      have Hh := Lib.hid hh
      clear hx hy hhN hh hex hey
      cases hlv : decide (cf x y < 0) with
      | true =>
        have hv : cf x y < 0 := of_decide_eq_true hlv
        go_wp2_with fail
        go_quiet_grown (first | (go_at_fn g; refine Calls.grown_of (hc _ _)))
        have S2 : Aside (SWK enc 2 w0 blk off d (grow (wr.drewN nq) osq)) := S1.out.grown nq osq
        clear la la1 lb lb1 hc S1
        generalize grow (wr.drewN nq) osq = w2 at S2 ⊢
        clear nq osq eh
        go_wp2
        go_roundg (j - (h + 1))
        case measure => omega
        case rel => exact ⟨h + 1, j, (by have := Hh.out; congr 1; omega), rfl, by omega, by omega, hjb, Nat.le_refl _, (show Hid _ from fun _ => by rw [Nat.add_sub_cancel, ← Hx.out, ← Hy.out]; exact hlv), HJ, S2⟩
      | false =>
        have hv : ¬ cf x y < 0 := of_decide_eq_false hlv
        go_wp2_with fail
        go_quiet_grown (first | (go_at_fn g; refine Calls.grown_of (hc _ _)))
        have S2 : Aside (SWK enc 2 w0 blk off d (grow (wr.drewN nq) osq)) := S1.out.grown nq osq
        clear la la1 lb lb1 hc S1
        generalize grow (wr.drewN nq) osq = w2 at S2 ⊢
        clear nq osq eh
        go_wp2
        go_roundg (h - i)
        case measure => omega
        case rel => exact ⟨i, h, rfl, (by have := Hh.out; congr 1; omega), hmi, hi1, by omega, Nat.le_refl _, HI, (show Hid _ from fun _ => by rw [← Hx.out, ← Hy.out]; exact hlv), S2⟩
    · have hz : ¬ (i : Int) < (j : Int) := by omega
      obtain rfl : i = j := by omega
      have hS1 := merge_one_left hO (d := d) (tag := tag) hb (by have := Hm.out; rw [← this]; exact HR.out) (by omega) hjb HJ.out (fun h => HI.out (by have := Hm.out; omega))
      have HS := Lib.hid hS1
      clear hS1
      go_wp2
      go_loopg [13] (i - a) (fun g1 vk wr => ∃ k : Nat, vk = .int .i64 k ∧ a ≤ k ∧ k + 1 ≤ i ∧ i - k ≤ g1 ∧ Aside (SWK enc 2 w0 blk off (rotA d a (a + 1) (k + 1)) wr))
      case atStart => exact ⟨a, rfl, Nat.le_refl _, by omega, Nat.le_refl _, (show Aside (SWK _ _ _ _ _ _ _) from by rw [rotA_none]; exact S1.out)⟩
      case round =>
        clear S1
        obtain ⟨k, rfl, hak, hki, hg2, S2⟩ := hrel
        by_cases hlt2 : k + 1 < i
        · have hz2 : (k : Int) < (i : Int) - 1 := by omega
          obtain ⟨c, hc⟩ : ∃ c, c = rotA d a (a + 1) (k + 1) := ⟨_, rfl⟩
          have hsc : c.size = d.size := by rw [hc]; exact size_rotA _ _ _ _
          have hsw : swp c k (k + 1) = rotA d a (a + 1) (k + 1 + 1) := by rw [hc]; exact rotA_up d a (k + 1) (by omega) (by omega)
          rw [← hc] at S2
          obtain ⟨x, hx⟩ : ∃ x, x = c[k]! := ⟨_, rfl⟩
          obtain ⟨y, hy⟩ : ∃ x, x = c[k + 1]! := ⟨_, rfl⟩
          obtain ⟨iN, hiN⟩ : ∃ q, q = k := ⟨_, rfl⟩
          obtain ⟨jN, hjN⟩ : ∃ q, q = k + 1 := ⟨_, rfl⟩
          have ea : ((k : Int)).toNat = iN := by omega
          have pa : (0 : Int) ≤ (k : Int) := by omega
          have ba : (k : Int) < (d.size : Int) := by omega
          have ec : ((k : Int) + 1).toNat = jN := by omega
          have pc : (0 : Int) ≤ (k : Int) + 1 := by omega
          have bc : (k : Int) + 1 < (d.size : Int) := by omega
          have rc : IntKind.i64.wrap ((k : Int) + 1) = (k : Int) + 1 := by rw [IntKind.wrap_i64]; omega
          obtain ⟨x0, x1, hex⟩ := R.two x
          obtain ⟨y0, y1, hey⟩ := R.two y
          have S3 : Aside (SWK enc 2 w0 blk off (rotA d a (a + 1) (k + 1 + 1)) (((((wr.setCell ⟨blk, off + iN * 2, none⟩ (.int .i64 y0)).setCell ⟨blk, off + iN * 2 + 1, none⟩ (.int .u64 y1)).setCell ⟨blk, off + jN * 2, none⟩ (.int .i64 x0)).setCell ⟨blk, off + jN * 2 + 1, none⟩ (.int .u64 x1)).drew)) := by
            have := S2.out.swapped2 R k (k + 1) (by omega) (by omega) (hx ▸ hex) (hy ▸ hey)
            rw [hsw] at this
            rw [hiN, hjN]; exact this
          obtain ⟨ca0, ca1, fa0, fa1⟩ := S2.out.cells2 R (by omega) k (by omega) (hx ▸ hex)
          obtain ⟨cb0, cb1, fb0, fb1⟩ := S2.out.cells2 R (by omega) (k + 1) (by omega) (hy ▸ hey)
          rw [← hiN] at ca0 ca1 fa0 fa1
          rw [← hjN] at cb0 cb1 fb0 fb1
          have hne : iN * 2 + 1 < jN * 2 ∨ jN * 2 + 1 < iN * 2 := by omega
          clear S2 hx hy hex hey hiN hjN hc hsc hsw
          go_wp2_with fail
          go_big_region
          clear ca0 ca1 cb0 cb1 fa0 fa1 fb0 fb1 hne
          generalize (((((wr.setCell ⟨blk, off + iN * 2, none⟩ (.int .i64 y0)).setCell ⟨blk, off + iN * 2 + 1, none⟩ (.int .u64 y1)).setCell ⟨blk, off + jN * 2, none⟩ (.int .i64 x0)).setCell ⟨blk, off + jN * 2 + 1, none⟩ (.int .u64 x1)).drew) = w3 at S3 ⊢
          clear ea ec
          go_wp2
          go_roundg (i - (k + 1))
          case measure => omega
          case rel => exact ⟨k + 1, by go_num, by omega, by omega, Nat.le_refl _, S3⟩
        · have hz2 : ¬ (k : Int) < (i : Int) - 1 := by omega
          obtain rfl : i = k + 1 := by omega
          go_wp2
          refine bodyPost_ret (results_none rfl _ _ _) rfl ⟨rfl, _, S2.out, rotA_permIn d a (a + 1) (k + 1) a b (Nat.le_refl _) (by omega) (by omega) hjb hb, HS.out⟩

set_option maxHeartbeats 1000000 in
set_option maxRecDepth 1000000 in
theorem symMerge_sam_right (enc : α → List Value) (cf : α → α → Int) (tag : α → Nat) (g : Nat) (cb : Array Value) (blk off cap L a m b : Nat) (A M B : Int) (d0 d : Array α) (w0 w : World)
    (eg : ∀ args w, (callFunc g args).run Tryz.prog w = .ok (.enter g args) w) (hO : SWO (ltOf cf)) (hcmp : CmpLays Tryz.prog g cb enc 2 cf blk off d0.size w0) (R : RowS enc w0 blk off d0) (hs : d0.size = d.size) (S : SWK enc 2 w0 blk off d w)
    (hL : d.size = L) (hA : A = (a : Int)) (hM : M = (m : Int)) (hB : B = (b : Int)) (ham : a + 1 < m) (hbm : b = m + 1) (hb : b ≤ d.size) (hsz : d.size < 2305843009213693952) (hR : Runs (ltOf cf) tag a m b d) :
    Calls Tryz.prog 163 #[.slice (some ⟨blk, off, none⟩) L cap, .int .i64 A, .int .i64 M, .int .i64 B, .func (.func g) #[] cb] w fun e w' =>
      e = .returned (.tuple #[]) ∧ ∃ d', SWK enc 2 w0 blk off d' w' ∧ PermIn a b d d' ∧ SortedR (ltOf cf) tag a b d' := by
  subst hL hA hM hB
  have mixed : Tryz.prog.follows .mixedOrders = true := by kernel_rfl
  have HC : Aside _ := hcmp
  have HR := Lib.hid hR
  have S0 : Aside (SWK enc 2 w0 blk off d w) := S
  clear S hcmp hR
  have z1 : ((m : Int) - (a : Int) == 1) = false := by rw [beq_eq_false_iff_ne]; omega
  have z2 : ((b : Int) - (m : Int) == 1) = true := by rw [beq_iff_eq]; omega
  have Hm := Lib.hid hbm
  have hm' : m < b := by omega
  clear hbm
  go_enter Tryz.func163, Tryz.ntmps163
  go_wp2
  go_loopg [14, 15] (m - a) (fun g1 vi vj wr => ∃ i j : Nat, vi = .int .i64 i ∧ vj = .int .i64 j ∧ a ≤ i ∧ i ≤ j ∧ j ≤ m ∧ j - i ≤ g1 ∧ Hid (a < i → ltOf cf d[m]! d[i - 1]! = false) ∧ Hid (j < m → ltOf cf d[m]! d[j]! = true) ∧ Aside (SWK enc 2 w0 blk off d wr))
  case atStart => exact ⟨a, m, rfl, rfl, Nat.le_refl _, by omega, Nat.le_refl _, Nat.le_refl _, (show Hid _ from fun h => by omega), (show Hid _ from fun h => by omega), S0⟩
  case round =>
    clear S0
    obtain ⟨i, j, rfl, rfl, hmi, hij, hjb, hg1, HI, HJ, S1⟩ := hrel
    by_cases hlt : i < j
    · have hz : (i : Int) < (j : Int) := by omega
      obtain ⟨h, hh⟩ : ∃ h, h = (i + j) / 2 := ⟨_, rfl⟩
      have hi1 : i ≤ h := by omega
      have hi2 : h < j := by omega
      obtain ⟨hN, hhN⟩ : ∃ q, q = h := ⟨_, rfl⟩
      have eh : (((i : Int) + (j : Int)) / 2).toNat = hN := by omega
      have ph : (0 : Int) ≤ ((i : Int) + (j : Int)) / 2 := by omega
      have bh : ((i : Int) + (j : Int)) / 2 < (d.size : Int) := by omega
      have ba : (m : Int) < (d.size : Int) := by omega
      obtain ⟨x, hx⟩ : ∃ x, x = d[m]! := ⟨_, rfl⟩
      obtain ⟨y, hy⟩ : ∃ x, x = d[h]! := ⟨_, rfl⟩
      obtain ⟨x0, x1, hex⟩ := R.two x
      obtain ⟨y0, y1, hey⟩ := R.two y
      have la0 := S1.out.cl2 R (by omega) m (by omega) (hx ▸ hex)
      have lb0 := S1.out.cl2 R (by omega) h (by omega) (hy ▸ hey)
      have la := fun n os => (la0 n os).1
      have la1 := fun n os => (la0 n os).2
      have lb := fun n os => (lb0 n os).1
      have lb1 := fun n os => (lb0 n os).2
      clear la0 lb0
      skip
      rw [← hhN] at lb lb1
      have hc := S1.out.cmp HC.out (by omega) x y
      rw [hex, hey] at hc
      have Hx := Lib.hid hx
      have Hy := Lib.hid hy
      have HhN := Lib.hid hhN
      have Hh := Lib.hid hh
      clear hx hy hhN hh hex hey
      cases hlv : decide (cf x y < 0) with
      | true =>
        have hv : cf x y < 0 := of_decide_eq_true hlv
        go_wp2_with fail
        go_quiet_grown (first | (go_at_fn g; refine Calls.grown_of (hc _ _)))
        have S2 : Aside (SWK enc 2 w0 blk off d (grow (wr.drewN nq) osq)) := S1.out.grown nq osq
        clear la la1 lb lb1 hc S1
        generalize grow (wr.drewN nq) osq = w2 at S2 ⊢
        clear nq osq eh
        go_wp2
        go_roundg (h - i)
        case measure => omega
        case rel => exact ⟨i, h, rfl, (by have := Hh.out; congr 1; omega), hmi, hi1, by omega, Nat.le_refl _, HI, (show Hid _ from fun _ => by rw [← Hx.out, ← Hy.out]; exact hlv), S2⟩
      | false =>
        have hv : ¬ cf x y < 0 := of_decide_eq_false hlv
        go_wp2_with fail
        go_quiet_grown (first | (go_at_fn g; refine Calls.grown_of (hc _ _)))
        have S2 : Aside (SWK enc 2 w0 blk off d (grow (wr.drewN nq) osq)) := S1.out.grown nq osq
        clear la la1 lb lb1 hc S1
        generalize grow (wr.drewN nq) osq = w2 at S2 ⊢
        clear nq osq eh
        go_wp2
        go_roundg (j - (h + 1))
        case measure => omega
        case rel => exact ⟨h + 1, j, (by have := Hh.out; congr 1; omega), rfl, by omega, by omega, hjb, Nat.le_refl _, (show Hid _ from fun _ => by rw [Nat.add_sub_cancel, ← Hx.out, ← Hy.out]; exact hlv), HJ, S2⟩
    · have hz : ¬ (i : Int) < (j : Int) := by omega
      obtain rfl : i = j := by omega
      have hS1 := merge_one_right hO (d := d) (tag := tag) (m := m) (by have := Hm.out; omega) (by have := Hm.out; rw [← this]; exact HR.out) hmi hjb HI.out HJ.out
      rw [← Hm.out] at hS1
      have HS := Lib.hid hS1
      clear hS1
      go_wp2
      go_loopg [17] (m - i) (fun g1 vk wr => ∃ k : Nat, vk = .int .i64 k ∧ i ≤ k ∧ k ≤ m ∧ k - i ≤ g1 ∧ Aside (SWK enc 2 w0 blk off (rotA d k m b) wr))
      case atStart => exact ⟨m, rfl, hjb, Nat.le_refl _, Nat.le_refl _, (show Aside (SWK _ _ _ _ _ _ _) from by rw [rotA_none']; exact S1.out)⟩
      case round =>
        clear S1
        obtain ⟨k, rfl, hak, hki, hg2, S2⟩ := hrel
        by_cases hlt2 : i < k
        · have hz2 : (i : Int) < (k : Int) := by omega
          obtain ⟨kp, hkp⟩ : ∃ q, q + 1 = k := ⟨k - 1, by omega⟩
          subst hkp
          have hz3 : (i : Int) < (kp : Int) + 1 := by omega
          obtain ⟨c, hc⟩ : ∃ c, c = rotA d (kp + 1) m b := ⟨_, rfl⟩
          have hsc : c.size = d.size := by rw [hc]; exact size_rotA _ _ _ _
          have hsw : swp c (kp + 1) kp = rotA d kp m b := by rw [hc, Hm.out]; exact rotA_down d (kp + 1) m (by omega) (by omega) (by omega)
          rw [← hc] at S2
          obtain ⟨x, hx⟩ : ∃ x, x = c[kp + 1]! := ⟨_, rfl⟩
          obtain ⟨y, hy⟩ : ∃ x, x = c[kp]! := ⟨_, rfl⟩
          obtain ⟨iN, hiN⟩ : ∃ q, q = kp + 1 := ⟨_, rfl⟩
          obtain ⟨jN, hjN⟩ : ∃ q, q = kp := ⟨_, rfl⟩
          have ea : ((kp : Int) + 1).toNat = iN := by omega
          have pa : (0 : Int) ≤ (kp : Int) + 1 := by omega
          have ba : (kp : Int) + 1 < (d.size : Int) := by omega
          have ra : IntKind.i64.wrap ((kp : Int) + 1) = (kp : Int) + 1 := by rw [IntKind.wrap_i64]; omega
          have ec : ((kp : Int)).toNat = jN := by omega
          have pc : (0 : Int) ≤ (kp : Int) := by omega
          have bc : (kp : Int) < (d.size : Int) := by omega
          have rc : IntKind.i64.wrap (kp : Int) = (kp : Int) := by rw [IntKind.wrap_i64]; omega
          obtain ⟨x0, x1, hex⟩ := R.two x
          obtain ⟨y0, y1, hey⟩ := R.two y
          have S3 : Aside (SWK enc 2 w0 blk off (rotA d kp m b) (((((wr.setCell ⟨blk, off + iN * 2, none⟩ (.int .i64 y0)).setCell ⟨blk, off + iN * 2 + 1, none⟩ (.int .u64 y1)).setCell ⟨blk, off + jN * 2, none⟩ (.int .i64 x0)).setCell ⟨blk, off + jN * 2 + 1, none⟩ (.int .u64 x1)).drew)) := by
            have := S2.out.swapped2 R (kp + 1) kp (by omega) (by omega) (hx ▸ hex) (hy ▸ hey)
            rw [hsw] at this
            rw [hiN, hjN]; exact this
          obtain ⟨ca0, ca1, fa0, fa1⟩ := S2.out.cells2 R (by omega) (kp + 1) (by omega) (hx ▸ hex)
          obtain ⟨cb0, cb1, fb0, fb1⟩ := S2.out.cells2 R (by omega) kp (by omega) (hy ▸ hey)
          rw [← hiN] at ca0 ca1 fa0 fa1
          rw [← hjN] at cb0 cb1 fb0 fb1
          have hne : iN * 2 + 1 < jN * 2 ∨ jN * 2 + 1 < iN * 2 := by omega
          clear S2 hx hy hex hey hiN hjN hc hsc hsw
          go_wp2_with fail
          go_big_region
          clear ca0 ca1 cb0 cb1 fa0 fa1 fb0 fb1 hne
          generalize (((((wr.setCell ⟨blk, off + iN * 2, none⟩ (.int .i64 y0)).setCell ⟨blk, off + iN * 2 + 1, none⟩ (.int .u64 y1)).setCell ⟨blk, off + jN * 2, none⟩ (.int .i64 x0)).setCell ⟨blk, off + jN * 2 + 1, none⟩ (.int .u64 x1)).drew) = w3 at S3 ⊢
          clear ea ec
          go_wp2
          go_roundg (kp - i)
          case measure => omega
          case rel => exact ⟨kp, by first | rfl | go_num | (congr 1; omega), by omega, by omega, Nat.le_refl _, S3⟩
        · have hz2 : ¬ (i : Int) < (k : Int) := by omega
          obtain rfl : i = k := by omega
          go_wp2
          refine bodyPost_ret (results_none rfl _ _ _) rfl ⟨rfl, _, S2.out, rotA_permIn d i m b a b hmi hki (by omega) (Nat.le_refl _) hb, HS.out⟩
end Go.Proofs.YtihidnmpngeohaaGreat
